/- Several texts in one: W09x W09v W09y W09z. -/
import Derived.Test.YtcbdhheelddgeaaGreatDoorZH
import Derived.Test.YtcbdhheelddgeaaGreatDoorZG
import Derived.StillTailTactics
import Derived.Maps.AppendAt
import Derived.Lib.OwnKind
namespace Go.Proofs.YtcbdhheelddgeaaGreatDoor
open Go.RowKit K
open Go.ChangeMaps (setBlock)
namespace K
/-- An append whose run is known, at a step of a region that draws. -/
theorem step_append_eq {P : Program} {ops : Array Oper} {o : Oper} {a : Act} {w : World} {K : Act → World → Prop} {Q : Exit → Act → World → Prop} {E : Prop}
  (hg : o.guard = none) (s x : Operand) (t : TypeId) (hop : o.op = Op.call { callee := Callee.builtin Builtin.append, args := #[s, x], argTypes := #[t, t] }) (ty : TypeId) (hty : o.type = ty)
  (v u : Value) (hs : a.eval s = v) (hx : a.eval x = u) {v' : Value} {w' : World} (hr : (Builtin.append_ #[t, t] ty #[v, u]).run P w = .ok v' w') (hK : K (a.put o.dst v') w') :
  if Region.wanted o (yielded ops a.tmps) = true then Oper.wp P o a w K Q else E := by
 have hw : Region.wanted o (yielded ops a.tmps) = true := by simp [Region.wanted, hg]
 rw [if_pos hw]
 subst hty
 unfold Oper.wp
 simp [execOp, hop, resolve, invoke, builtin, hs, hx, hr, Result.andThen]
 exact hK
end K
namespace W
theorem str_add (a b c : List UInt8) (h : a ++ b = c) (ha : a.length ≤ 8000000) (hb : b.length ≤ 8000000) : ∀ U, (Op.stringOp .add ⟨a.toArray⟩ ⟨b.toArray⟩).run Tryz.prog U = .ok (.string ⟨c.toArray⟩) U := fun U => by
 subst h
 have h1 : (((ByteArray.mk a.toArray).size : Int) + ((ByteArray.mk b.toArray).size : Int)) ≤ 9223372036854775807 := by
  simp [ByteArray.size]
  omega
 simpa [Op.stringOp, append_list] using h1
/-- An int is put behind an own row of ints, by way of a row of one. -/
theorem app_int (Y : World) (base n cap : Nat) (A : Option Addr) (M : List Int) (x : Int) (hown : Y.ownsRow base 3 1 (.slice A n cap) n (ivs M)) (hn : n ≤ 3000000) (hb : base ≤ Y.heap.size) :
  ∃ A' c' w', (Builtin.append_ #[41, 41] 41 #[.slice A n cap, .slice (some ⟨Y.heap.size, 0, none⟩) 1 1]).run Tryz.prog (Y.alloc (.cells #[.int .i64 x] 3)).drew = .ok (.slice A' (n + 1) c') w' ∧
   w'.ownsRow base 3 1 (.slice A' (n + 1) c') (n + 1) (ivs (M ++ [x])) ∧ (Y.alloc (.cells #[.int .i64 x] 3)).drew.grownBy w' (Value.slice A n cap).ownBlock ∧ ((Value.slice A' (n + 1) c').ownBlock = (Value.slice A n cap).ownBlock ∨ (Value.slice A' (n + 1) c').ownBlock = some (Y.heap.size + 1)) := by
 obtain ⟨i0, hi, hz0, hz1, hz2⟩ : ∃ i : TypeInfo, Tryz.prog.info? 3 = some i ∧ i.zero = some (.int .i64 0) ∧ i.size = 1 ∧ i.bytes = 8 := by
  have h : (Tryz.prog.info? 3).map (fun i => (i.zero, i.size, i.bytes)) = some (some (.int .i64 0), 1, 8) := by kernel_rfl
  obtain ⟨i, h1, h2⟩ := Option.map_eq_some_iff.1 h
  simp only [Prod.mk.injEq] at h2
  exact ⟨i, h1, h2⟩
 obtain ⟨v', w', r1, r2, r3, -, r4⟩ := run_append_own_at (P := Tryz.prog) (Y.alloc (.cells #[.int .i64 x] 3)).drew base 41 41 3 i0 _ 1 8 Tryz.underlying41 hi hz0 hz1 hz2 rfl (by decide) (.slice A n cap) n (ivs M) ((hown.alloc _).drew) ⟨Y.heap.size, 0, none⟩ 1 1 [.int .i64 x] rfl
  (fun j u hj => by
   match j, hj with
   | 0, hj => simp at hj; subst hj; simp [Addr.add])
  (by intro u hu; simp at hu; rw [hu]; rfl) (by unfold maxLen; omega) (by omega) (by simp; omega)
 have hx : ivs M ++ [.int .i64 x] = ivs (M ++ [x]) := by simp [ivs]
 rw [hx] at r2
 obtain ⟨A', c', rfl⟩ : ∃ A' c', v' = .slice A' (n + 1) c' := by
  rcases r2.2 with ⟨rfl, h0⟩ | ⟨q, c, cur, rfl, _⟩
  ·omega
  ·exact ⟨_, _, rfl⟩
 refine ⟨A', c', w', r1, r2, r3, ?_⟩
 rcases r4 with h | h
 ·exact .inl h
 ·exact .inr (by rw [h]; simp)
end W
end Go.Proofs.YtcbdhheelddgeaaGreatDoor
namespace Go.Proofs.YtcbdhheelddgeaaGreatDoor
open Go.RowKit K
open Go.ChangeMaps (setBlock)
namespace W
/-- Of what was there, the box, the map and the blanks alone are turned. -/
structure FR (base g mb : Nat) (vb : Value) (w w' : World) : Prop where
 size : w.heap.size ≤ w'.heap.size
 far : ∀ q, q < w.heap.size → q ≠ g → q ≠ mb → vb.ownBlock ≠ some q → w'.heap[q]? = w.heap[q]?
 below : Below base w w'
theorem FR.trans {base g mb : Nat} {vb : Value} {a b c : World} (h : FR base g mb vb a b) (k : FR base g mb vb b c) : FR base g mb vb a c :=
 ⟨Nat.le_trans h.size k.size, fun q h1 h2 h3 h4 => (k.far q (Nat.lt_of_lt_of_le h1 h.size) h2 h3 h4).trans (h.far q h1 h2 h3 h4), h.below.trans k.below⟩
theorem FR.set {base g mb : Nat} {vb : Value} {a b : World} (h : FR base g mb vb a b) (hg : base ≤ g) (o : Nat) (v : Value) : FR base g mb vb a (b.setCell ⟨g, o, none⟩ v) :=
 h.trans ⟨by simp, fun q _ h2 _ _ => Below.heap_setCell _ _ _ _ (by dsimp only; exact h2), (Below.refl _ _).setCell (p := ⟨g, o, none⟩) hg v⟩
theorem FR.alloc {base g mb : Nat} {vb : Value} {a b : World} (h : FR base g mb vb a b) (hb : base ≤ b.heap.size) (o : Obj) : FR base g mb vb a (b.alloc o) :=
 h.trans ⟨by simp, fun q h1 _ _ _ => Below.heap_alloc _ _ _ h1, (Below.refl _ _).alloc hb o⟩
theorem FR.drew {base g mb : Nat} {vb : Value} {a b : World} (h : FR base g mb vb a b) : FR base g mb vb a b.drew := ⟨h.size, h.far, h.below.drew⟩
/-- What replace leaves. -/
def ReplOut (T' : List SE) (L' : List Int) (base : Nat) (ps : Nat) (s' : List UInt8) (g mb : Nat) (va vl vb : Value) (h str : Bool) (w : World) (e : Ending) (w' : World) : Prop :=
 ∃ vb', e = .returned (.tuple #[]) ∧ EB w' g s' ps va (.map (some mb)) vb' true h str vl ∧ SM w' mb T' ∧ w'.ownsRow base 3 1 vb' L'.length (ivs L') ∧ FR base g mb vb w w'
/-- The blanks midway. -/
def BW (L : List Int) (mv : Int) (base k : Nat) (vb : Value) (wr w2 : World) : Prop :=
 w2.ownsRow base 3 1 vb L.length (ivs ((L.take k).map (· + mv) ++ L.drop k)) ∧ (∀ q, vb.ownBlock ≠ some q → w2.heap[q]? = wr.heap[q]?) ∧ w2.heap.size = wr.heap.size ∧ Below base wr w2
theorem BW.step {L : List Int} {mv : Int} {base k gb cap : Nat} {wr w2 : World} (h : BW L mv base k (.slice (some ⟨gb, 0, none⟩) L.length cap) wr w2) {y : Int} (hy : L[k]? = some y) :
  w2.cell? ⟨gb, k, none⟩ = some (.int .i64 y) ∧ w2.frozen? ⟨gb, k, none⟩ = false ∧ BW L mv base (k + 1) (.slice (some ⟨gb, 0, none⟩) L.length cap) wr (w2.setCell ⟨gb, k, none⟩ (.int .i64 (y + mv))) := by
 obtain ⟨h1, h2, h3, h4⟩ := h
 have hk := (List.getElem?_eq_some_iff.1 hy).1
 have hd : L.drop k = y :: L.drop (k + 1) := by rw [List.drop_eq_getElem_cons hk]; congr 1; exact (List.getElem?_eq_some_iff.1 hy).2
 have hl : ((L.take k).map (· + mv)).length = k := by simp; omega
 refine ⟨?_, h1.frozenAt k, ?_, fun q hq => (Below.heap_setCell _ _ _ _ (fun e => hq (by rw [e]; rfl))).trans (h2 q hq), by simpa using h3, h4.setCell (p := ⟨gb, k, none⟩) (h1.lt gb rfl).1 _⟩
 ·rw [h1.cellAt k (by omega), ivs_get, List.getElem?_append_right (by omega), hl, Nat.sub_self, hd]
  rfl
 ·have := (h1.stored k (.int .i64 (y + mv))).1
  have e : (ivs ((L.take k).map (· + mv) ++ L.drop k)).set k (.int .i64 (y + mv)) = ivs ((L.take (k + 1)).map (· + mv) ++ L.drop (k + 1)) := by
   rw [AL.take_one hy, hd]
   unfold ivs
   simp only [List.map_append, List.map_cons, List.map_nil, List.append_assoc, List.cons_append, List.nil_append]
   rw [List.set_append_right _ _ (by rw [List.length_map, hl]; exact Nat.le_refl _), List.length_map, hl, Nat.sub_self, List.set_cons_zero]
  rw [e] at this
  exact this
set_option maxRecDepth 100000 in
set_option maxHeartbeats 4000000 in
theorem replace_any (T : List SE) (L : List Int) (base : Nat) (kd ps st : Nat) (tx v : List UInt8) (g mb : Nat) (s : List UInt8) (at_ : Int) (va vl vb : Value) (c h str : Bool) (w : World) (he : EB w g s at_ va (.map (some mb)) vb c h str vl) (hM : SM w mb T) (hown : w.ownsRow base 3 1 vb L.length (ivs L)) (hbg : base ≤ g) (hgm : mb ≠ g) (hbm0 : base ≤ mb) (hl : L.length ≤ 2000000) (hL : ∀ x ∈ L, -1000000000000000 ≤ x ∧ x ≤ 1000000000000000) (hT : ∀ x ∈ T, -1000000000000000 ≤ x.2 ∧ x.2 ≤ 1000000000000000) (hTn : (T.map Prod.fst).Nodup) (hps : ps ≤ st) (hst : st ≤ s.length) (hsl : s.length ≤ 1000000) (hv : v.length ≤ 1000000) :
  Calls Tryz.prog 15 #[.pointer (some ⟨g, 0, none⟩), .agg #[.int .i64 kd, .int .i64 ps, .int .i64 st, .string ⟨tx.toArray⟩], .string ⟨v.toArray⟩] w (ReplOut (sput (T.map fun e => (e.1, if (ps : Int) < e.2 then e.2 + ((v.length : Int) - ((st : Int) - (ps : Int))) else e.2)) tx ((ps : Int) + v.length)) (L.map (· + ((v.length : Int) - ((st : Int) - (ps : Int)))) ++ if Lib.hasSuffix v [32] || Lib.hasSuffix v [9] then [(ps : Int) + v.length] else []) base ps (cut s 0 ps ++ (v ++ cut s st s.length)) g mb va vl vb h str w) := by
 obtain ⟨T', hT'⟩ : ∃ T', sput (T.map fun e => (e.1, if (ps : Int) < e.2 then e.2 + ((v.length : Int) - ((st : Int) - (ps : Int))) else e.2)) tx ((ps : Int) + v.length) = T' := ⟨_, rfl⟩
 obtain ⟨L', hL'⟩ : ∃ L', (L.map (· + ((v.length : Int) - ((st : Int) - (ps : Int)))) ++ if Lib.hasSuffix v [32] || Lib.hasSuffix v [9] then [(ps : Int) + v.length] else []) = L' := ⟨_, rfl⟩
 rw [hT', hL']
 have HTT := Lib.hid hT'
 have HLL := Lib.hid hL'
 clear hT' hL'
 obtain ⟨V, hV⟩ : ∃ V, V = w.alloc (.cells #[.int .i64 kd, .int .i64 ps, .int .i64 st, .string ⟨tx.toArray⟩] 46) := ⟨_, rfl⟩
 have e1 := he.new (show Below w.heap.size w V by rw [hV]; exact balloc w _)
 have hn : V.heap[w.heap.size]? = some (.cells #[.int .i64 kd, .int .i64 ps, .int .i64 st, .string ⟨tx.toArray⟩] 46 (0, 0)) := by rw [hV]; exact al_new w _
 obtain ⟨k0, k1, k2, k3, k4, k5, -⟩ := e1.cells
 have f0 := e1.thaw 0
 have t1 : V.cell? ⟨w.heap.size, 1, none⟩ = some (.int .i64 ps) := Lib.cell_of_heap hn 1
 have t2 : V.cell? ⟨w.heap.size, 2, none⟩ = some (.int .i64 st) := Lib.cell_of_heap hn 2
 have t3 : V.cell? ⟨w.heap.size, 3, none⟩ = some (.string ⟨tx.toArray⟩) := Lib.cell_of_heap hn 3
 have HV := Lib.hid hV
 have a1 := str_add (cut s 0 ps) v (cut s 0 ps ++ v) rfl (by simp; omega) (by omega)
 have a2 := str_add (cut s 0 ps ++ v) (cut s st s.length) (cut s 0 ps ++ v ++ cut s st s.length) rfl (by simp; omega) (by simp; omega)
 have p0 : (0 : Int) ≤ (ps : Int) := by omega
 have p1 : (ps : Int) ≤ (s.length : Int) := by omega
 have p2 : (0 : Int) ≤ (st : Int) := by omega
 have p3 : (st : Int) ≤ (s.length : Int) := by omega
 have hbm : w.heap.size ≠ mb := by have := hM.lt; omega
 have HE := Lib.hid e1
 have HN := Lib.hid (show (V.setCell ⟨g, 0, none⟩ (.string ⟨(cut s 0 ps ++ (v ++ cut s st s.length)).toArray⟩)).drew.heap[w.heap.size]? = some (.cells #[.int .i64 kd, .int .i64 ps, .int .i64 st, .string ⟨tx.toArray⟩] 46 (0, 0)) from (Below.heap_setCell _ _ _ _ (by have := he.lt; dsimp only; omega)).trans hn)
 have HM := Lib.hid (show SM (V.setCell ⟨g, 0, none⟩ (.string ⟨(cut s 0 ps ++ (v ++ cut s st s.length)).toArray⟩)).drew mb T from (sm_new hM (show Below w.heap.size w V by rw [hV]; exact balloc w _)).kept (Below.heap_setCell _ _ _ _ (by dsimp only; exact hgm)))
 obtain ⟨A, cap, rfl⟩ : ∃ A cap, vb = .slice A L.length cap := by
  rcases hown.2 with ⟨rfl, h0⟩ | ⟨q, cap, cur, rfl, _⟩
  ·exact ⟨none, 0, by rw [h0]⟩
  ·exact ⟨_, _, rfl⟩
 have HOB := Lib.hid (fun q (hq : (Value.slice A L.length cap).ownBlock = some q) => (show (q < w.heap.size ∧ q ≠ g) ∧ q ≠ mb from by
  have h1 := (hown.lt q hq).2
  obtain ⟨cs, fz, hk⟩ := Lib.ownsRow_kind hown q hq
  refine ⟨⟨h1, fun e => ?_⟩, fun e => ?_⟩
  ·rw [e, he] at hk
   simp at hk
  ·have hm := hM
   unfold SM at hm
   rw [← e, hk] at hm
   simp at hm))
 have HO := Lib.hid (show (V.setCell ⟨g, 0, none⟩ (.string ⟨(cut s 0 ps ++ (v ++ cut s st s.length)).toArray⟩)).drew.ownsRow base 3 1 (.slice A L.length cap) L.length (ivs L) from own_same hown (fun q hq => by
  have h1 := HOB.out q hq
  refine (Below.heap_setCell _ _ _ _ (by dsimp only; exact h1.1.2)).trans ?_
  rw [hV]
  exact Below.heap_alloc _ _ _ h1.1.1))
 have HUS := Lib.hid (show (V.setCell ⟨g, 0, none⟩ (.string ⟨(cut s 0 ps ++ (v ++ cut s st s.length)).toArray⟩)).drew.heap.size = w.heap.size + 1 by rw [hV]; simp)
 have HFR := Lib.hid (show FR base g mb (.slice A L.length cap) w (V.setCell ⟨g, 0, none⟩ (.string ⟨(cut s 0 ps ++ (v ++ cut s st s.length)).toArray⟩)).drew from by
  rw [hV]
  exact (((⟨Nat.le_refl _, fun _ _ _ _ _ => rfl, Below.refl _ _⟩ : FR base g mb (.slice A L.length cap) w w).alloc (by have := he.lt; omega) _).set hbg 0 _).drew)
 have HB0M := Lib.hid (And.intro hbm0 hbg)
 clear he hM hown hn e1 hV hbm0
 go_enter Tryz.func15, Tryz.ntmps15
 go_wp2_with fail
 rw [← HV.out]
 go_still_tail 20, (by kernel_rfl)
 change wpList _ _ _ _ _ V.drew
 go_upto_region 2 with (fail)
 obtain ⟨U, hU⟩ : ∃ U, U = (V.setCell ⟨g, 0, none⟩ (.string ⟨(cut s 0 ps ++ (v ++ cut s st s.length)).toArray⟩)).drew := ⟨_, rfl⟩
 rw [← hU]
 rw [← hU] at HO HUS HFR
 have hUc : EB U g (cut s 0 ps ++ (v ++ cut s st s.length)) at_ va (.map (some mb)) (.slice A L.length cap) c h str vl := by rw [hU]; exact (HE.out).set0 _
 have hUm : SM U mb T := by rw [hU]; exact HM.out
 have hUn : U.heap[w.heap.size]? = some (.cells #[.int .i64 kd, .int .i64 ps, .int .i64 st, .string ⟨tx.toArray⟩] 46 (0, 0)) := by rw [hU]; exact HN.out
 clear k0 k1 k2 k3 k4 k5 f0 t1 t2 t3 a1 a2
 have t1 : U.cell? ⟨w.heap.size, 1, none⟩ = some (.int .i64 ps) := Lib.cell_of_heap hUn 1
 have t2 : U.cell? ⟨w.heap.size, 2, none⟩ = some (.int .i64 st) := Lib.cell_of_heap hUn 2
 obtain ⟨-, -, -, k3, -⟩ := hUc.cells
 have hrng := run_range_map (P := Tryz.prog) U 40 9 3 mb _ T.length Tryz.underlying40 hUm
 have HUC := Lib.hid hUc
 have HUM := Lib.hid hUm
 have HUN := Lib.hid hUn
 clear hU hUc hUm hUn
 obtain ⟨mv, hmv⟩ : ∃ mv : Int, mv = (v.length : Int) - ((st : Int) - (ps : Int)) := ⟨_, rfl⟩
 obtain ⟨f, hf⟩ : ∃ f : Int → Int, f = fun e => if (ps : Int) < e then e + mv else e := ⟨_, rfl⟩
 have HF := Lib.hid hf
 have HMV := Lib.hid hmv
 have HT := Lib.hid hT
 have HTN := Lib.hid hTn
 have hmu := HUM.out.lt
 clear hf hT hTn
 go_wp2
 rw [← HMV.out]
 clear hmv
 have hrm : U.heap.size ≠ mb := by omega
 have hgr : g ≠ U.heap.size := by have := HUC.out.lt; omega
 have hbr : w.heap.size ≠ U.heap.size := by have := (Array.getElem?_eq_some_iff.1 HUN.out).1; omega
 have HBM := Lib.hid hbm
 have HW0 := Lib.hid (RW.start (f := f) (r := U.heap.size) rfl HUM.out)
 have HRN := Lib.hid hrm
 have HGR := Lib.hid hgr
 have HBR := Lib.hid hbr
 clear hrm hgr hbr hbm hrng
 go_loopg [7, 8] T.length (fun gk x7 x8 wr => ∃ seen : Array Nat, gk = T.length - seen.size ∧ Hid (RW f T mb U.heap.size U wr seen))
 case atStart => exact ⟨#[], by simp, HW0⟩
 case round =>
  obtain ⟨seen, rfl, HRW⟩ := hrel
  rcases HRW.out.next (P := Tryz.prog) HRN.out with ⟨hall, hrun⟩ | ⟨j, k, u, W, hT, hj, hrun, hent, q1, q2, q3, q4, q5⟩
  ·have hm1 := HRW.out.m
   rw [hall] at hm1
   have HM1 := Lib.hid hm1
   have hw1 : ∀ q, q ≠ U.heap.size → q ≠ mb → wr.heap[q]? = U.heap[q]? := HRW.out.far
   have HO1 := Lib.hid (own_same HO.out (fun q hq => hw1 q (by have := HOB.out q hq; have := HUS.out; omega) (HOB.out q hq).2))
   have HFR1 := Lib.hid (HFR.out.trans ⟨by rw [HRW.out.size]; omega, fun q h1 _ h3 _ => hw1 q (by omega) h3, HRW.out.below base HB0M.out.1 (by have := HUC.out.lt; have := HB0M.out.2; omega)⟩)
   have HE1 := Lib.hid (HUC.out.kept (hw1 g HGR.out hgm.symm))
   have HN1 := Lib.hid ((hw1 _ HBR.out HBM.out).trans HUN.out)
   obtain ⟨-, -, -, -, e4, -⟩ := HE1.out.cells
   have HB0 := Lib.hid (show BW L mv base 0 (.slice A L.length cap) wr wr from ⟨by simpa using HO1.out, fun _ _ => rfl, rfl, Below.refl _ _⟩)
   have n0 : (0 : Int) ≤ (L.length : Int) := by omega
   have n1 : (L.length : Int) ≤ 2000000 := by omega
   have HLB := Lib.hid hL
   clear hall hm1 hw1 hL
   go_wp2
   go_loopg [9, 65] L.length (fun gk x9 x65 w2 => ∃ k : Nat, k ≤ L.length ∧ gk = L.length - k ∧ x65 = .int .i64 k ∧ Hid (BW L mv base k (.slice A L.length cap) wr w2))
   case atStart => exact ⟨0, Nat.zero_le _, rfl, rfl, HB0⟩
   case round =>
    obtain ⟨k, hk, rfl, rfl, HBW⟩ := hrel
    by_cases hlt : k < L.length
    ·have hlt2 : (k : Int) < (L.length : Int) := by omega
     obtain ⟨gb, cap', hv2, -⟩ := row_some HBW.out.1 (by omega)
     injection hv2 with z1 z2 z3
     subst z1
     obtain ⟨y, hy⟩ : ∃ y, L[k]? = some y := ⟨_, List.getElem?_eq_getElem hlt⟩
     obtain ⟨y1, y2, hb2⟩ := HBW.out.step hy
     have HB2 := Lib.hid hb2
     have hgg : gb ≠ g := (HOB.out gb rfl).1.2
     have y3 : wr.cell? ⟨g, 4, none⟩ = some (.slice (some ⟨gb, 0, none⟩) L.length cap) := (World.cell?_of_block (HBW.out.2.1 g (fun e => hgg (by injection e)))).trans e4
     have hyb := HLB.out y (List.mem_of_getElem? hy)
     have hmvb := HMV.out
     have hw2 : IntKind.i64.wrap (y + mv) = y + mv := IntWalk.i64_in _ (by omega)
     have HLT := Lib.hid hlt
     clear hb2 hgg hyb hmvb hy z3 z2 e4
     go_wp2
     go_roundg (L.length - (k + 1))
     case measure => have := HLT.out; omega
     case rel => exact ⟨k + 1, HLT.out, rfl, by go_num, HB2⟩
    ·have hlt2 : ¬ (k : Int) < (L.length : Int) := by omega
     have hkl : k = L.length := by omega
     have HBX := Lib.hid (show wr.ownsRow base 3 1 (.slice A L.length cap) L.length (ivs (L.map (· + mv))) from by
      have := HBW.out.1
      rw [hkl, List.take_length, List.drop_length, List.append_nil] at this
      exact this)
     have HFR2 := Lib.hid (HFR1.out.trans ⟨Nat.le_of_eq HBW.out.2.2.1.symm, fun q _ _ _ h4 => HBW.out.2.1 q h4, HBW.out.2.2.2⟩)
     have HE2 := Lib.hid (HE1.out.kept (HBW.out.2.1 g (fun e => (HOB.out g e).1.2 rfl)))
     have HM2 := Lib.hid (HM1.out.kept (HBW.out.2.1 mb (fun e => (HOB.out mb e).2 rfl)))
     have HN2 := Lib.hid ((HBW.out.2.1 _ (fun e => by have := (HOB.out _ e).1.1; omega)).trans HN1.out)
     have d3 := HE2.out.cells.2.2.2.1
     have d1 : wr.cell? ⟨w.heap.size, 1, none⟩ = some (.int .i64 ps) := Lib.cell_of_heap HN2.out 1
     have d4 : wr.cell? ⟨w.heap.size, 3, none⟩ = some (.string ⟨tx.toArray⟩) := Lib.cell_of_heap HN2.out 3
     have hput := SM.put (P := Tryz.prog) (W := wr.drew) (HM2.out.kept rfl) Tryz.underlying40 Tryz.underlying9 tx ((ps : Int) + v.length)
     have hw3 : IntKind.i64.wrap ((ps : Int) + v.length) = (ps : Int) + v.length := IntWalk.i64_in _ (by omega)
     clear e4 t1 t2 k3 hkl n1
     go_wp2_with fail
     go_still_tail 11, (by kernel_rfl)
     change wpList _ _ _ _ _ wr.drew
     go_upto_region 14 with (fail)
     obtain ⟨Y, hY⟩ : ∃ Y, Y = setBlock wr.drew mb (.map (ments 0 (sput (T.map fun e => (e.1, f e.2)) tx ((ps : Int) + v.length))).toArray (sput (T.map fun e => (e.1, f e.2)) tx ((ps : Int) + v.length)).length) := ⟨_, rfl⟩
     rw [← hY]
     obtain ⟨yb1, yb2⟩ := block_set wr.drew mb (.map (ments 0 (sput (T.map fun e => (e.1, f e.2)) tx ((ps : Int) + v.length))).toArray (sput (T.map fun e => (e.1, f e.2)) tx ((ps : Int) + v.length)).length)
     rw [← hY] at yb1 yb2
     have HFRY := Lib.hid (HFR2.out.drew.trans (show FR base g mb (.slice A L.length cap) wr.drew Y from ⟨Nat.le_of_eq yb1.symm, fun q _ _ h3 _ => yb2 q h3, by rw [hY]; exact block_below (Below.refl _ _) HB0M.out.1 _⟩))
     have HEY := Lib.hid (HE2.out.kept (yb2 g hgm.symm))
     have HNY := Lib.hid ((yb2 _ HBM.out).trans HN2.out)
     have HMY := Lib.hid (show SM Y mb (sput (T.map fun e => (e.1, f e.2)) tx ((ps : Int) + v.length)) from by rw [hY]; exact SM.set (W := wr.drew) (HM2.out.kept rfl) _)
     have HOY := Lib.hid (own_same HBX.out (fun q hq => yb2 q (HOB.out q hq).2))
     have HS1 := Lib.hid (Tryz.strings_HasSuffix ⟨v.toArray⟩ ⟨#[32]⟩ Y (by simp [ByteArray.size]; omega))
     have HS2 := Lib.hid (Tryz.strings_HasSuffix ⟨v.toArray⟩ ⟨#[9]⟩ Y (by simp [ByteArray.size]; omega))
     have y1 : Y.cell? ⟨w.heap.size, 1, none⟩ = some (.int .i64 ps) := Lib.cell_of_heap HNY.out 1
     obtain ⟨-, g1, -, -, g4, g5, -⟩ := HEY.out.cells
     have gf1 := HEY.out.thaw 1
     have gf5 := HEY.out.thaw 5
     have gf4 := HEY.out.thaw 4
     clear hY yb1 yb2 d3 d1 d4 hput
     obtain ⟨c1, hc1⟩ : ∃ c1, Lib.hasSuffix v [32] = c1 := ⟨_, rfl⟩
     obtain ⟨c2, hc2⟩ : ∃ c2, Lib.hasSuffix v [9] = c2 := ⟨_, rfl⟩
     simp only [hc1] at HS1
     simp only [hc2] at HS2
     cases c1
     case false =>
      cases c2
      case false =>
       go_wp2_with fail
       refine HS1.out.mono ?_
       rintro e Y1 ⟨rfl, rfl⟩
       go_wp2_with fail
       refine HS2.out.mono ?_
       rintro e Y2 ⟨rfl, rfl⟩
       have HEND := Lib.hid (show ReplOut (sput (T.map fun e => (e.1, f e.2)) tx ((ps : Int) + v.length)) (L.map (· + mv) ++ []) base ps (cut s 0 ps ++ (v ++ cut s st s.length)) g mb va vl (.slice A L.length cap) h str w (.returned (.tuple #[])) ((Y2.setCell ⟨g, 1, none⟩ (.int .i64 ps)).setCell ⟨g, 5, none⟩ (.bool true)) from
        ⟨_, rfl, (HEY.out.set1 _).set5 true, (HMY.out.kept (Below.heap_setCell _ _ _ _ (by dsimp only; exact hgm))).kept (Below.heap_setCell _ _ _ _ (by dsimp only; exact hgm)), by
         rw [List.append_nil, List.length_map]
         exact own_same HOY.out (fun q hq => (Below.heap_setCell _ _ _ _ (by dsimp only; exact (HOB.out q hq).1.2)).trans (Below.heap_setCell _ _ _ _ (by dsimp only; exact (HOB.out q hq).1.2))), (HFRY.out.set HB0M.out.2 1 _).set HB0M.out.2 5 _⟩)
       rw [HF.out, HMV.out, HTT.out] at HEND
       have hll := HLL.out
       rw [hc1, hc2, Bool.or_false, if_neg (by simp)] at hll
       rw [hll] at HEND
       clear hll
       go_wp2
       first | go_end0 | refine bodyPost_ret (results_none rfl _ _ _) rfl ?_
       exact HEND.out
      case true =>
       go_wp2_with fail
       refine HS1.out.mono ?_
       rintro e Y1 ⟨rfl, rfl⟩
       go_wp2_with fail
       refine HS2.out.mono ?_
       rintro e Y2 ⟨rfl, rfl⟩
       obtain ⟨A', c', w3, hrun, hown3, hgrow3, hwhere⟩ := app_int Y2 base L.length cap A (L.map (· + mv)) ((ps : Int) + v.length) HOY.out (by omega) (by have := HEY.out.lt; omega)
       have hkp : ∀ q, q < Y2.heap.size → (Value.slice A L.length cap).ownBlock ≠ some q → w3.heap[q]? = Y2.heap[q]? := fun q h1 h2 => (hgrow3.block q (by simp; omega) (fun e => h2 e.symm)).trans (Below.heap_alloc _ _ _ h1)
       have r3 := HEY.out.kept (hkp g HEY.out.lt (fun e => (HOB.out g e).1.2 rfl))
       have HNW := Lib.hid ((hkp w.heap.size (Array.getElem?_eq_some_iff.1 HNY.out).1 (fun e => by have := (HOB.out _ e).1.1; omega)).trans HNY.out)
       have HEW := Lib.hid r3
       have HKP := Lib.hid hkp
       have x1 : w3.cell? ⟨w.heap.size, 1, none⟩ = some (.int .i64 ps) := Lib.cell_of_heap HNW.out 1
       have x4 := r3.cells.2.2.2.2.1
       have xg1 := r3.cells.2.1
       have xg5 := r3.cells.2.2.2.2.2.1
       have xf4 := r3.thaw 4
       have xf1 := r3.thaw 1
       have xf5 := r3.thaw 5
       have HRUN := Lib.hid hrun
       have HO3 := Lib.hid hown3
       have HG3 := Lib.hid hgrow3
       have HWH := Lib.hid hwhere
       have hyg : g < Y2.heap.size := HEY.out.lt
       have hyw : w.heap.size < Y2.heap.size := (Array.getElem?_eq_some_iff.1 HNY.out).1
       clear hkp r3 hrun hown3 hgrow3 hwhere
       have HEND := Lib.hid (show ReplOut (sput (T.map fun e => (e.1, f e.2)) tx ((ps : Int) + v.length)) (L.map (· + mv) ++ [(ps : Int) + v.length]) base ps (cut s 0 ps ++ (v ++ cut s st s.length)) g mb va vl (.slice A L.length cap) h str w (.returned (.tuple #[])) (((w3.setCell ⟨g, 4, none⟩ (.slice A' (L.length + 1) c')).setCell ⟨g, 1, none⟩ (.int .i64 ps)).setCell ⟨g, 5, none⟩ (.bool true)) from by
        have hst : ∀ q, q ≠ g → (((w3.setCell ⟨g, 4, none⟩ (.slice A' (L.length + 1) c')).setCell ⟨g, 1, none⟩ (.int .i64 ps)).setCell ⟨g, 5, none⟩ (.bool true)).heap[q]? = w3.heap[q]? := fun q hq => ((Below.heap_setCell _ _ _ _ (by dsimp only; exact hq)).trans (Below.heap_setCell _ _ _ _ (by dsimp only; exact hq))).trans (Below.heap_setCell _ _ _ _ (by dsimp only; exact hq))
        have hfr : FR base g mb (.slice A L.length cap) w w3 := ((HFRY.out.alloc (by have := HB0M.out.2; omega) _).drew).trans ⟨HG3.out.size, fun q h1 _ _ h4 => HG3.out.block q h1 (fun e => h4 e.symm), (Below.refl _ _).grown HG3.out (by have := HB0M.out.2; simp; omega) (fun k hk => (HOY.out.lt k hk).1)⟩
        refine ⟨_, rfl, ((HEW.out.set4 _).set1 _).set5 true, (HMY.out.kept (HKP.out mb HMY.out.lt (fun e => (HOB.out mb e).2 rfl))).kept (hst mb hgm), ?_, ((hfr.set HB0M.out.2 4 _).set HB0M.out.2 1 _).set HB0M.out.2 5 _⟩
        have hle : (L.map (· + mv) ++ [(ps : Int) + v.length]).length = L.length + 1 := by simp
        rw [hle]
        exact own_same HO3.out (fun q hq => hst q (by
         rcases HWH.out with h | h
         ·exact (HOB.out q (h.symm.trans hq)).1.2
         ·rw [h] at hq
          injection hq with hq
          omega)))
       rw [HF.out, HMV.out, HTT.out] at HEND
       have hll := HLL.out
       rw [hc1, hc2, Bool.or_true, if_pos rfl] at hll
       rw [hll] at HEND
       clear hll
       go_wp2_with fail
       go_region_law (refine step_append_eq rfl _ _ 41 rfl 41 rfl _ _ rfl rfl HRUN.out ?_)
       all_goals (go_wp2; (first | go_end0 | refine bodyPost_ret (results_none rfl _ _ _) rfl ?_); exact HEND.out)
     case true =>
      go_wp2_with fail
      refine HS1.out.mono ?_
      rintro e Y1 ⟨rfl, rfl⟩
      obtain ⟨A', c', w3, hrun, hown3, hgrow3, hwhere⟩ := app_int Y1 base L.length cap A (L.map (· + mv)) ((ps : Int) + v.length) HOY.out (by omega) (by have := HEY.out.lt; omega)
      have hkp : ∀ q, q < Y1.heap.size → (Value.slice A L.length cap).ownBlock ≠ some q → w3.heap[q]? = Y1.heap[q]? := fun q h1 h2 => (hgrow3.block q (by simp; omega) (fun e => h2 e.symm)).trans (Below.heap_alloc _ _ _ h1)
      have r3 := HEY.out.kept (hkp g HEY.out.lt (fun e => (HOB.out g e).1.2 rfl))
      have HNW := Lib.hid ((hkp w.heap.size (Array.getElem?_eq_some_iff.1 HNY.out).1 (fun e => by have := (HOB.out _ e).1.1; omega)).trans HNY.out)
      have HEW := Lib.hid r3
      have HKP := Lib.hid hkp
      have x1 : w3.cell? ⟨w.heap.size, 1, none⟩ = some (.int .i64 ps) := Lib.cell_of_heap HNW.out 1
      have x4 := r3.cells.2.2.2.2.1
      have xg1 := r3.cells.2.1
      have xg5 := r3.cells.2.2.2.2.2.1
      have xf4 := r3.thaw 4
      have xf1 := r3.thaw 1
      have xf5 := r3.thaw 5
      have HRUN := Lib.hid hrun
      have HO3 := Lib.hid hown3
      have HG3 := Lib.hid hgrow3
      have HWH := Lib.hid hwhere
      have hyg : g < Y1.heap.size := HEY.out.lt
      have hyw : w.heap.size < Y1.heap.size := (Array.getElem?_eq_some_iff.1 HNY.out).1
      clear hkp r3 hrun hown3 hgrow3 hwhere
      have HEND := Lib.hid (show ReplOut (sput (T.map fun e => (e.1, f e.2)) tx ((ps : Int) + v.length)) (L.map (· + mv) ++ [(ps : Int) + v.length]) base ps (cut s 0 ps ++ (v ++ cut s st s.length)) g mb va vl (.slice A L.length cap) h str w (.returned (.tuple #[])) (((w3.setCell ⟨g, 4, none⟩ (.slice A' (L.length + 1) c')).setCell ⟨g, 1, none⟩ (.int .i64 ps)).setCell ⟨g, 5, none⟩ (.bool true)) from by
       have hst : ∀ q, q ≠ g → (((w3.setCell ⟨g, 4, none⟩ (.slice A' (L.length + 1) c')).setCell ⟨g, 1, none⟩ (.int .i64 ps)).setCell ⟨g, 5, none⟩ (.bool true)).heap[q]? = w3.heap[q]? := fun q hq => ((Below.heap_setCell _ _ _ _ (by dsimp only; exact hq)).trans (Below.heap_setCell _ _ _ _ (by dsimp only; exact hq))).trans (Below.heap_setCell _ _ _ _ (by dsimp only; exact hq))
       have hfr : FR base g mb (.slice A L.length cap) w w3 := ((HFRY.out.alloc (by have := HB0M.out.2; omega) _).drew).trans ⟨HG3.out.size, fun q h1 _ _ h4 => HG3.out.block q h1 (fun e => h4 e.symm), (Below.refl _ _).grown HG3.out (by have := HB0M.out.2; simp; omega) (fun k hk => (HOY.out.lt k hk).1)⟩
       refine ⟨_, rfl, ((HEW.out.set4 _).set1 _).set5 true, (HMY.out.kept (HKP.out mb HMY.out.lt (fun e => (HOB.out mb e).2 rfl))).kept (hst mb hgm), ?_, ((hfr.set HB0M.out.2 4 _).set HB0M.out.2 1 _).set HB0M.out.2 5 _⟩
       have hle : (L.map (· + mv) ++ [(ps : Int) + v.length]).length = L.length + 1 := by simp
       rw [hle]
       exact own_same HO3.out (fun q hq => hst q (by
        rcases HWH.out with h | h
        ·exact (HOB.out q (h.symm.trans hq)).1.2
        ·rw [h] at hq
         injection hq with hq
         omega)))
      rw [HF.out, HMV.out, HTT.out] at HEND
      have hll := HLL.out
      rw [hc1, Bool.true_or, if_pos rfl] at hll
      rw [hll] at HEND
      clear hll
      go_wp2_with fail
      go_region_law (refine step_append_eq rfl _ _ 41 rfl 41 rfl _ _ rfl rfl HRUN.out ?_)
      all_goals (go_wp2; (first | go_end0 | refine bodyPost_ret (results_none rfl _ _ _) rfl ?_); exact HEND.out)
  ·have hu := HT.out _ (List.mem_of_getElem? hT)
   have b1 : W.cell? ⟨w.heap.size, 1, none⟩ = some (.int .i64 ps) := (World.cell?_of_block (q3 _ HBR.out HBM.out)).trans t1
   have b2 : W.cell? ⟨g, 3, none⟩ = some (.map (some mb)) := (World.cell?_of_block (q3 _ HGR.out hgm.symm)).trans k3
   have hsz := HRW.out.size_le
   by_cases hlt : (ps : Int) < u
   ·have hfu : f u = u + mv := by rw [HF.out]; exact if_pos hlt
    have HRW2 := Lib.hid (RW.round_put HTN.out HRN.out HRW.out.nodup HRW.out.lt hT hj q1 q2 q3 q4 q5)
    have hput := q2.put (P := Tryz.prog) Tryz.underlying40 Tryz.underlying9 k (f u)
    have hs2 : seen.size < T.length := by have := HRW2.out.size_le; simp at this; omega
    rw [hfu] at hput HRW2
    have hq3 : decide ((ps : Int) < u) = true := by simpa using hlt
    have hmvb := HMV.out
    have hw1 : IntKind.i64.wrap (u + mv) = u + mv := IntWalk.i64_in _ (by simp only at hu; omega)
    have HS2 := Lib.hid hs2
    clear hmvb hs2 hsz hT hj q1 q2 q3 q4 q5 hfu hu
    go_wp2
    go_roundg (T.length - (seen.size + 1))
    case measure => have := HS2.out; omega
    case rel => exact ⟨seen.push j, by simp, HRW2⟩
   ·have hfu : f u = u := by rw [HF.out]; exact if_neg hlt
    have HRW2 := Lib.hid (RW.round_same HRW.out.nodup HRW.out.lt hT hj hfu q1 q2 q3 q4 q5)
    have hs2 : seen.size < T.length := by have := HRW2.out.size_le; simp at this; omega
    have hq3 : decide ((ps : Int) < u) = false := by simpa using hlt
    have HS2 := Lib.hid hs2
    have hlt2 : u ≤ (ps : Int) := by omega
    clear hs2 hsz hT hj q1 q2 q3 q4 q5 hfu hu hlt b2
    go_wp2
    go_roundg (T.length - (seen.size + 1))
    case measure => have := HS2.out; omega
    case rel => exact ⟨seen.push j, by simp, HRW2⟩
end W
end Go.Proofs.YtcbdhheelddgeaaGreatDoor
namespace Go.Proofs.YtcbdhheelddgeaaGreatDoor
open Go.RowKit K
namespace W
theorem EB.set8 {W : World} {g : Nat} {s : List UInt8} {at_ : Int} {va vm vb vl : Value} {c h st : Bool} (e : EB W g s at_ va vm vb c h st vl) (v : Value) : EB (W.setCell ⟨g, 8, none⟩ v) g s at_ va vm vb c h st v := by
 have := heap_setCell_same W g 8 _ _ v e
 unfold EB; rw [this]; simp
set_option maxRecDepth 100000 in
set_option maxHeartbeats 1000000 in
theorem skip_none (g : Nat) (s : List UInt8) (at_ : Int) (va vm vb : Value) (c h str : Bool) (w : World) (he : EB w g s at_ va vm vb c h str (.slice none 0 0)) :
  Calls Tryz.prog 35 #[.pointer (some ⟨g, 0, none⟩)] w fun e w' => e = .returned (.tuple #[]) ∧ EB w' g s at_ va vm vb c h str (.slice none 0 0) ∧ OneBox g w w' := by
 obtain ⟨-, -, -, -, -, -, -, -, x8⟩ := he.cells
 have f8 := he.thaw 8
 have hgs := he.lt
 have HF := Lib.hid (show EB (w.setCell ⟨g, 8, none⟩ (.slice none 0 0)) g s at_ va vm vb c h str (.slice none 0 0) ∧ OneBox g w (w.setCell ⟨g, 8, none⟩ (.slice none 0 0)) from ⟨he.set8 _, (OneBox.refl g w).set _ _⟩)
 clear he
 go_enter Tryz.func35, Tryz.ntmps35
 go_wp2
 go_loopw [13] (fun i wr => i = .int .i64 0 ∧ wr = w) (fun _ _ => 0)
 case atStart => exact ⟨rfl, rfl⟩
 case round =>
  obtain ⟨rfl, rfl⟩ := hrel
  go_wp2
  first | go_end0 | refine bodyPost_ret (results_none rfl _ _ _) rfl ?_
  exact ⟨rfl, HF.out⟩
set_option maxRecDepth 100000 in
set_option maxHeartbeats 1000000 in
theorem pass_line (ps st : Nat) (tx : List UInt8) (g : Nat) (s : List UInt8) (at_ : Int) (va vm vb : Value) (c str : Bool) (w : World) (he : EB w g s at_ va vm vb c false str (.slice none 0 0)) :
  Calls Tryz.prog 16 #[.pointer (some ⟨g, 0, none⟩), .agg #[.int .i64 3, .int .i64 ps, .int .i64 st, .string ⟨tx.toArray⟩]] w fun e w' => e = .returned (.tuple #[]) ∧ EB w' g s st va vm vb true false str (.slice none 0 0) ∧ OneBox g w w' := by
 have hgs := he.lt
 obtain ⟨V, hV⟩ : ∃ V, V = w.setCell ⟨g, 1, none⟩ (.int .i64 st) := ⟨_, rfl⟩
 have e1 : EB V g s st va vm vb c false str (.slice none 0 0) := by rw [hV]; exact he.set1 _
 have hVs : V.heap.size = w.heap.size := by rw [hV]; simp
 have hV1 : OneBox g w V := by rw [hV]; exact (OneBox.refl g w).set 1 _
 obtain ⟨X, hX⟩ : ∃ X, X = V.alloc (.cells #[.int .i64 3, .int .i64 ps, .int .i64 st, .string ⟨tx.toArray⟩] 46) := ⟨_, rfl⟩
 have e2 : EB X g s st va vm vb c false str (.slice none 0 0) := by rw [hX]; exact e1.new (balloc V _)
 have hX1 : OneBox g w X := by rw [hX]; exact hV1.alloc hgs _
 have hnX : X.heap[w.heap.size]? = some (.cells #[.int .i64 3, .int .i64 ps, .int .i64 st, .string ⟨tx.toArray⟩] 46 (0, 0)) := by rw [hX, ← hVs]; exact al_new V _
 obtain ⟨-, w1, -⟩ := he.cells
 have wf := he.thaw 1
 obtain ⟨-, -, -, -, -, x5, x6, -⟩ := e2.cells
 have f5 := e2.thaw 5
 have t0 : X.cell? ⟨w.heap.size, 0, none⟩ = some (.int .i64 3) := Lib.cell_of_heap hnX 0
 have HX := Lib.hid (show X = (w.setCell ⟨g, 1, none⟩ (.int .i64 st)).alloc (.cells #[.int .i64 3, .int .i64 ps, .int .i64 st, .string ⟨tx.toArray⟩] 46) by rw [hX, hV])
 have HS := Lib.hid (skip_none g s st va vm vb c false str X e2)
 have hgx : g < X.heap.size := e2.lt
 have HX1 := Lib.hid hX1
 clear he e1 hV1 hX hV e2 hX1 hnX hVs
 go_enter Tryz.func16, Tryz.ntmps16
 go_upto_region 2 with (fail)
 rw [← HX.out]
 go_wp2_with fail
 refine HS.out.mono ?_
 rintro e X2 ⟨rfl, hb, ho⟩
 obtain ⟨-, -, -, -, -, y5, -⟩ := hb.cells
 have k5 := hb.thaw 5
 have HF := Lib.hid (show EB (X2.setCell ⟨g, 5, none⟩ (.bool true)) g s st va vm vb true false str (.slice none 0 0) ∧ OneBox g w (X2.setCell ⟨g, 5, none⟩ (.bool true)) from ⟨hb.set5 true, OneBox.set ⟨Nat.le_trans HX1.out.1 ho.1, fun q h1 h2 => (ho.2.1 q (Nat.lt_of_lt_of_le h1 HX1.out.1) h2).trans (HX1.out.2.1 q h1 h2), HX1.out.2.2.trans ho.2.2⟩ _ _⟩)
 clear hb ho
 go_wp2
 first | go_end0 | refine bodyPost_ret (results_none rfl _ _ _) rfl ?_
 exact ⟨rfl, HF.out⟩
end W
end Go.Proofs.YtcbdhheelddgeaaGreatDoor
namespace Go.Proofs.YtcbdhheelddgeaaGreatDoor
open K W
namespace AX
theorem suffix_one (v : List UInt8) (b : UInt8) : Lib.hasSuffix v [b] = (v.getLast? == some b) := by
 unfold Lib.hasSuffix
 rw [Bool.eq_iff_iff, List.isSuffixOf_iff_suffix, beq_iff_eq, List.getLast?_eq_some_iff]
 constructor
 ·rintro ⟨t, rfl⟩
  exact ⟨t, rfl⟩
 ·rintro ⟨t, rfl⟩
  exact ⟨t, rfl⟩
theorem cuts {s v : List UInt8} {ps st : Nat} : cut s 0 ps ++ (v ++ cut s st s.length) = s.take ps ++ v ++ s.drop st := by
 simp [cut]
theorem replace_eq (x : X) (ps st : Nat) (tx v : List UInt8) : replace x ps st tx v =
  { x with s := cut x.s 0 ps ++ (v ++ cut x.s st x.s.length), at_ := ps, ends := sput (x.ends.map fun e => (e.1, if (ps : Int) < e.2 then e.2 + ((v.length : Int) - ((st : Int) - (ps : Int))) else e.2)) tx ((ps : Int) + v.length), blanks := (x.blanks.map (· + ((v.length : Int) - ((st : Int) - (ps : Int)))) ++ if Lib.hasSuffix v [32] || Lib.hasSuffix v [9] then [(ps : Int) + v.length] else []), cmd := true } := by
 rw [suffix_one, suffix_one, cuts]
 rfl
end AX
end Go.Proofs.YtcbdhheelddgeaaGreatDoor
namespace Go.Proofs.YtcbdhheelddgeaaGreatDoor
open Go.RowKit K
namespace W
/-- The examiner x in memory; w0: Expand's first world. -/
structure XI (w0 : World) (g mb : Nat) (va : Value) (B : Int) (N : Nat) (vb : Value) (x : AX.X) (W : World) : Prop where
 box : EB W g x.s x.at_ va (.map (some mb)) vb x.cmd x.here x.strip (.slice none 0 0)
 row : W.ownsRow w0.heap.size 3 1 vb x.blanks.length (ivs x.blanks)
 m : SM W mb x.ends
 below : Below w0.heap.size w0 W
 hg : w0.heap.size ≤ g
 hm : w0.heap.size ≤ mb
 gm : mb ≠ g
 at_ : x.at_ ≤ x.s.length
 keys : (x.ends.map Prod.fst).Nodup
 eb : ∀ e ∈ x.ends, -B ≤ e.2 ∧ e.2 ≤ B
 bb : ∀ y ∈ x.blanks, -B ≤ y ∧ y ≤ B
 nb : x.blanks.length ≤ N
section
variable {w0 : World} {g mb : Nat} {va vb : Value} {B : Int} {N : Nat} {x : AX.X} {W : World}
theorem XI.mb_vb (h : XI w0 g mb va B N vb x W) : vb.ownBlock ≠ some mb := fun e => by
 obtain ⟨cs, fz, hk⟩ := Lib.ownsRow_kind h.row mb e
 have hm := h.m
 unfold SM at hm
 rw [hk] at hm
 simp at hm
theorem XI.reach (h : XI w0 g mb va B N vb x W) (hN : N ≤ 2000000) (pos : Nat) :
  Calls Tryz.prog 13 #[.pointer (some ⟨g, 0, none⟩), .int .i64 pos] W fun e W' => e = .returned (.tuple #[]) ∧ ∃ vb', XI w0 g mb va B N vb' (AX.reach x pos) W' ∧ FR w0.heap.size g mb vb W W' ∧ vb'.ownBlock = vb.ownBlock := by
 refine (reach_any x.blanks pos w0.heap.size g x.s x.at_ va (.map (some mb)) vb (.slice none 0 0) x.cmd x.here x.strip W h.row h.box h.hg (Nat.le_trans h.nb hN)).mono ?_
 rintro e W' ⟨vb', rfl, h1, h2, h3, h4, h5, h6⟩
 refine ⟨rfl, vb', ⟨h3, h1, h.m.kept (h5 mb h.m.lt h.gm h.mb_vb), h.below.trans h6, h.hg, h.hm, h.gm, h.at_, h.keys, h.eb, fun y hy => h.bb y (List.mem_filter.1 hy).1, Nat.le_trans (List.length_filter_le _ _) h.nb⟩, ⟨h4, fun q q1 q2 _ q4 => h5 q q1 q2 q4, h6⟩, h2⟩
theorem XI.later (h : XI w0 g mb va B N vb x W) {W' : World} (hb : Below W.heap.size W W') : XI w0 g mb va B N vb x W' :=
 ⟨h.box.new hb, own_same h.row (fun q hq => hb.block q (h.row.lt q hq).2), sm_new h.m hb, h.below.trans (hb.mono h.below.size), h.hg, h.hm, h.gm, h.at_, h.keys, h.eb, h.bb, h.nb⟩
theorem XI.value (h : XI w0 g mb va B N vb x W) {l : List AL.Al} (hA : AS w0 va l) (hl : l.length ≤ 1000000) (t : LX.Tok) :
  Calls Tryz.prog 14 #[.pointer (some ⟨g, 0, none⟩), .agg #[.int .i64 t.kind, .int .i64 t.pos, .int .i64 t.stop, .string ⟨t.text.toArray⟩]] W fun e W' => e = .returned (.tuple #[.string ⟨((AX.value l x.ends x.cmd t.kind t.pos t.text).getD []).toArray⟩, .bool (AX.value l x.ends x.cmd t.kind t.pos t.text).isSome]) ∧ Below W.heap.size W W' :=
 value_any l x.ends t.kind t.pos t.stop t.text g mb x.s x.at_ va vb (.slice none 0 0) x.cmd x.here x.strip W h.box (hA.go h.below) h.m hl
theorem XI.pass (h : XI w0 g mb va B N vb x W) (t : LX.Tok) {y : AX.X} (hy : AX.pass x t.kind t.stop t.text = some y) (hst : t.stop ≤ x.s.length) :
  Calls Tryz.prog 16 #[.pointer (some ⟨g, 0, none⟩), .agg #[.int .i64 t.kind, .int .i64 t.pos, .int .i64 t.stop, .string ⟨t.text.toArray⟩]] W fun e W' => e = .returned (.tuple #[]) ∧ XI w0 g mb va B N vb y W' := by
 have hbox := h.box
 have hh : x.here = false := by
  unfold AX.pass at hy
  cases hx : x.here
  ·rfl
  ·rw [hx, if_pos rfl] at hy; cases hy
 have fin : ∀ (W' : World) (z : AX.X), z.ends = x.ends → z.blanks = x.blanks → z.s = x.s → z.at_ = t.stop → EB W' g z.s z.at_ va (.map (some mb)) vb z.cmd z.here z.strip (.slice none 0 0) → OneBox g W W' → XI w0 g mb va B N vb z W' := fun W' z z1 z2 z3 z4 hb ho =>
  ⟨hb, by rw [z2]; exact own_same h.row (fun q hq => ho.2.1 q (h.row.lt q hq).2 (fun e => by
    obtain ⟨cs, fz, hk⟩ := Lib.ownsRow_kind h.row q hq
    rw [e, h.box] at hk
    simp at hk)), by rw [z1]; exact h.m.kept (ho.2.1 mb h.m.lt h.gm), h.below.trans (ho.2.2.mono h.hg), h.hg, h.hm, h.gm, by rw [z3, z4]; exact hst, by rw [z1]; exact h.keys, by rw [z1]; exact h.eb, by rw [z2]; exact h.bb, by rw [z2]; exact h.nb⟩
 unfold AX.pass at hy
 rw [hh] at hy hbox
 rw [if_neg (by simp)] at hy
 by_cases h3 : t.kind = 3
 ·rw [if_pos h3] at hy
  injection hy with hy
  have := pass_line t.pos t.stop t.text g x.s x.at_ va (.map (some mb)) vb x.cmd x.strip W hbox
  rw [h3]
  refine this.mono ?_
  rintro e W' ⟨rfl, h5, h6⟩
  rw [← hy]
  exact ⟨rfl, fin W' _ rfl rfl rfl rfl h5 h6⟩
 rw [if_neg h3] at hy
 by_cases h2 : t.kind = 2
 ·rw [if_pos h2] at hy
  injection hy with hy
  have := pass_op t.pos t.stop t.text g x.s x.at_ va (.map (some mb)) vb (.slice none 0 0) x.cmd x.strip W hbox
  rw [h2]
  refine this.mono ?_
  rintro e W' ⟨rfl, h5, h6⟩
  rw [← hy]
  exact ⟨rfl, fin W' _ rfl rfl rfl rfl h5 h6⟩
 ·rw [if_neg h2] at hy
  injection hy with hy
  refine (pass_word t.kind t.pos t.stop t.text g x.s x.at_ va (.map (some mb)) vb (.slice none 0 0) x.cmd x.strip W hbox h2 h3).mono ?_
  rintro e W' ⟨rfl, h5, h6⟩
  rw [← hy]
  exact ⟨rfl, fin W' _ rfl rfl rfl rfl h5 h6⟩
end
end W
end Go.Proofs.YtcbdhheelddgeaaGreatDoor
namespace Go.Proofs.YtcbdhheelddgeaaGreatDoor
open Go.RowKit K
namespace W
theorem XI.replace {w0 : World} {g mb : Nat} {va vb : Value} {B : Int} {N : Nat} {x : AX.X} {W : World} (h : XI w0 g mb va B N vb x W) (t : LX.Tok) (v : List UInt8) (h1 : t.pos ≤ t.stop) (h2 : t.stop ≤ x.s.length) (h3 : x.s.length ≤ 16384) (h4 : v.length ≤ 10000) (hB : 30000 ≤ B) (hB2 : B ≤ 1000000000000) (hN : N ≤ 2000000) :
  Calls Tryz.prog 15 #[.pointer (some ⟨g, 0, none⟩), .agg #[.int .i64 t.kind, .int .i64 t.pos, .int .i64 t.stop, .string ⟨t.text.toArray⟩], .string ⟨v.toArray⟩] W fun e W' => e = .returned (.tuple #[]) ∧ ∃ vb', XI w0 g mb va (B + 30000) (N + 1) vb' (AX.replace x t.pos t.stop t.text v) W' := by
 refine (replace_any x.ends x.blanks w0.heap.size t.kind t.pos t.stop t.text v g mb x.s x.at_ va (.slice none 0 0) vb x.cmd x.here x.strip W h.box h.m h.row h.hg h.gm h.hm (Nat.le_trans h.nb hN) (fun y hy => by have := h.bb y hy; omega) (fun e he => by have := h.eb e he; omega) h.keys h1 h2 (by omega) (by omega)).mono ?_
 rintro e W' ⟨vb', rfl, q1, q2, q3, q4⟩
 refine ⟨rfl, vb', ?_⟩
 rw [AX.replace_eq]
 refine ⟨q1, q3, q2, h.below.trans q4.below, h.hg, h.hm, h.gm, ?_, ?_, fun e he => ?_, fun y hy => ?_, ?_⟩
 ·dsimp only
  simp only [List.length_append, cut_length]
  omega
 ·refine sput_keys _ _ _ ?_
  rw [List.map_map]
  exact h.keys
 ·rcases sput_mem _ _ _ e he with rfl | he
  ·dsimp only; omega
  ·obtain ⟨e0, he0, rfl⟩ := List.mem_map.1 he
   have := h.eb e0 he0
   dsimp only
   split <;> omega
 ·dsimp only at hy
  rcases List.mem_append.1 hy with hy | hy
  ·obtain ⟨y0, hy0, rfl⟩ := List.mem_map.1 hy
   have := h.bb y0 hy0
   omega
  ·split at hy
   ·rw [List.mem_singleton] at hy; omega
   ·simp at hy
 ·have := h.nb
  dsimp only
  rw [List.length_append, List.length_map]
  split <;> simp <;> omega
end W
end Go.Proofs.YtcbdhheelddgeaaGreatDoor
