/- Several texts in one: W09m W09n W09o W09p. -/
import Derived.Test.YtcbdhheelddgeaaGreatDoorZE
import Derived.Deep.RegionHeld3
namespace Go.Proofs.YtcbdhheelddgeaaGreatDoor
open Go.RowKit K
namespace W
/-- The examiner's box. -/
def EB (W : World) (g : Nat) (s : List UInt8) (at_ : Int) (va vm vb : Value) (c h st : Bool) (vl : Value) : Prop :=
 W.heap[g]? = some (.cells #[.string ⟨s.toArray⟩, .int .i64 at_, va, vm, vb, .bool c, .bool h, .bool st, vl] 44 (0, 0))
section
variable {W W' : World} {g : Nat} {s : List UInt8} {at_ : Int} {va vm vb vl : Value} {c h st : Bool}
theorem EB.lt (e : EB W g s at_ va vm vb c h st vl) : g < W.heap.size := (Array.getElem?_eq_some_iff.1 e).1
theorem EB.cells (e : EB W g s at_ va vm vb c h st vl) : W.cell? ⟨g, 0, none⟩ = some (.string ⟨s.toArray⟩) ∧ W.cell? ⟨g, 1, none⟩ = some (.int .i64 at_) ∧ W.cell? ⟨g, 2, none⟩ = some va ∧ W.cell? ⟨g, 3, none⟩ = some vm ∧ W.cell? ⟨g, 4, none⟩ = some vb ∧ W.cell? ⟨g, 5, none⟩ = some (.bool c) ∧ W.cell? ⟨g, 6, none⟩ = some (.bool h) ∧ W.cell? ⟨g, 7, none⟩ = some (.bool st) ∧ W.cell? ⟨g, 8, none⟩ = some vl :=
 ⟨Lib.cell_of_heap e 0, Lib.cell_of_heap e 1, Lib.cell_of_heap e 2, Lib.cell_of_heap e 3, Lib.cell_of_heap e 4, Lib.cell_of_heap e 5, Lib.cell_of_heap e 6, Lib.cell_of_heap e 7, Lib.cell_of_heap e 8⟩
theorem EB.thaw (e : EB W g s at_ va vm vb c h st vl) (k : Nat) : W.frozen? ⟨g, k, none⟩ = false := Lib.frozen_of_heap e k
theorem EB.kept (e : EB W g s at_ va vm vb c h st vl) (hg : W'.heap[g]? = W.heap[g]?) : EB W' g s at_ va vm vb c h st vl := hg.trans e
theorem EB.set4 (e : EB W g s at_ va vm vb c h st vl) (v : Value) : EB (W.setCell ⟨g, 4, none⟩ v) g s at_ va vm v c h st vl := by
 have := heap_setCell_same W g 4 _ _ v e
 unfold EB; rw [this]; simp
theorem EB.set5 (e : EB W g s at_ va vm vb c h st vl) (b : Bool) : EB (W.setCell ⟨g, 5, none⟩ (.bool b)) g s at_ va vm vb b h st vl := by
 have := heap_setCell_same W g 5 _ _ (.bool b) e
 unfold EB; rw [this]; simp
end
/-- The function that reach hands on. -/
def fnR (pb xb : Nat) : Value := .func (Fn.func 32) #[] #[.pointer (some ⟨pb, 0, none⟩), .pointer (some ⟨xb, 0, none⟩)]
theorem reach1_yes (e pos : Int) (pb xb g : Nat) (b : Bool) (w : World) (h : e ≤ pos) (hne : pb ≠ g) (c0 : w.cell? ⟨pb, 0, none⟩ = some (.int .i64 pos)) (x0 : w.cell? ⟨xb, 0, none⟩ = some (.pointer (some ⟨g, 0, none⟩))) (k5 : w.cell? ⟨g, 5, none⟩ = some (.bool b)) (f5 : w.frozen? ⟨g, 5, none⟩ = false) :
  Calls Tryz.prog 32 #[.int .i64 e, .pointer (some ⟨pb, 0, none⟩), .pointer (some ⟨xb, 0, none⟩)] w fun r w' => r = .returned (.bool true) ∧ w' = w.setCell ⟨g, 5, none⟩ (.bool true) := by
 have c1 := (show (w.setCell ⟨g, 5, none⟩ (.bool true)).cell? ⟨pb, 0, none⟩ = some (.int .i64 pos) from (World.cell?_of_block (Below.heap_setCell _ _ _ _ (by dsimp only; exact hne))).trans c0)
 go_enter Tryz.func32, Tryz.ntmps32
 go_wp2
 go_ret
 exact ⟨rfl, rfl⟩
theorem reach1_no (e pos : Int) (pb xb : Nat) (w : World) (h : pos < e) (c0 : w.cell? ⟨pb, 0, none⟩ = some (.int .i64 pos)) :
  Calls Tryz.prog 32 #[.int .i64 e, .pointer (some ⟨pb, 0, none⟩), .pointer (some ⟨xb, 0, none⟩)] w fun r w' => r = .returned (.bool false) ∧ w' = w := by
 go_enter Tryz.func32, Tryz.ntmps32
 go_wp2
 go_ret
 exact ⟨by simpa using h, rfl⟩
/-- What IndexFunc finds. -/
def IdxOut (L : List Int) (pos : Int) (g : Nat) (w : World) (e : Ending) (w' : World) : Prop :=
 ((∀ x ∈ L, pos < x) ∧ e = .returned (.int .i64 (-1)) ∧ w' = w) ∨ ∃ k : Nat, ∃ y, L[k]? = some y ∧ y ≤ pos ∧ (∀ x ∈ L.take k, pos < x) ∧ e = .returned (.int .i64 k) ∧ w' = w.setCell ⟨g, 5, none⟩ (.bool true)
set_option maxRecDepth 100000 in
set_option maxHeartbeats 4000000 in
theorem index_any (L : List Int) (pos : Int) (pb xb g rb c : Nat) (b : Bool) (w : World) (hne : pb ≠ g) (c0 : w.cell? ⟨pb, 0, none⟩ = some (.int .i64 pos)) (x0 : w.cell? ⟨xb, 0, none⟩ = some (.pointer (some ⟨g, 0, none⟩))) (k5 : w.cell? ⟨g, 5, none⟩ = some (.bool b)) (f5 : w.frozen? ⟨g, 5, none⟩ = false)
  (hrow : ∀ j x, L[j]? = some x → w.cell? ⟨rb, j, none⟩ = some (.int .i64 x)) (hl : L.length ≤ 2000000) :
  Calls Tryz.prog 68 #[.slice (some ⟨rb, 0, none⟩) L.length c, fnR pb xb] w (IdxOut L pos g w) := by
 obtain ⟨n, hn⟩ : ∃ n, n = L.length := ⟨_, rfl⟩
 rw [← hn] at hl ⊢
 have n0 : (0 : Int) ≤ (n : Int) := by omega
 have nb : (n : Int) ≤ 2000000 := by omega
 have HN := Lib.hid hn
 have HR := Lib.hid hrow
 have HY := Lib.hid (fun e (h : e ≤ pos) => reach1_yes e pos pb xb g b w h hne c0 x0 k5 f5)
 have HNO := Lib.hid (fun e (h : pos < e) => reach1_no e pos pb xb w h c0)
 clear hl hn hrow hne c0 x0 k5 f5
 unfold fnR
 go_enter Tryz.func68, Tryz.ntmps68
 go_wp2
 go_loopg [8] n (fun gk i wr => ∃ k : Nat, k ≤ n ∧ gk = n - k ∧ i = .int .i64 k ∧ wr = w ∧ Hid (∀ x ∈ L.take k, pos < x))
 case atStart => exact ⟨0, Nat.zero_le _, rfl, rfl, rfl, Lib.hid (fun x hx => by simp at hx)⟩
 case round =>
  obtain ⟨k, hk, rfl, rfl, rfl, HA⟩ := hrel
  by_cases hlt : k < n
  ·have hlt2 : (k : Int) < (n : Int) := by omega
   obtain ⟨y, hy⟩ : ∃ y, L[k]? = some y := ⟨_, List.getElem?_eq_getElem (by have := HN.out; omega)⟩
   have r0 := HR.out k y hy
   have HLY := Lib.hid hy
   have HLT := Lib.hid hlt
   clear hy
   by_cases hyp : y ≤ pos
   ·have HC := Lib.hid (HY.out y hyp)
    have HYP := Lib.hid hyp
    clear hyp
    go_wp2_with fail
    refine HC.out.mono ?_
    rintro e w1 ⟨rfl, rfl⟩
    go_wp2
    go_ret
    exact .inr ⟨k, y, HLY.out, HYP.out, HA.out, rfl, rfl⟩
   ·have HC := Lib.hid (HNO.out y (by omega))
    have HA2 := Lib.hid (show ∀ x ∈ L.take (k + 1), pos < x from fun x hx => by
     rw [AL.take_one HLY.out] at hx
     rcases List.mem_append.1 hx with h | h
     ·exact HA.out x h
     ·rw [List.mem_singleton] at h; rw [h]; omega)
    clear hyp
    go_wp2_with fail
    refine HC.out.mono ?_
    rintro e w1 ⟨rfl, rfl⟩
    go_wp2
    go_roundg (n - (k + 1))
    case measure => have := HLT.out; omega
    case rel => exact ⟨k + 1, HLT.out, rfl, by go_num, rfl, HA2⟩
  ·have hlt2 : ¬ (k : Int) < (n : Int) := by omega
   have HA2 := Lib.hid (show ∀ x ∈ L, pos < x from fun x hx => HA.out x (by rw [List.take_of_length_le (by have := HN.out; omega)]; exact hx))
   go_wp2
   go_ret
   exact .inl ⟨HA2.out, rfl, rfl⟩
end W
end Go.Proofs.YtcbdhheelddgeaaGreatDoor
namespace Go.Proofs.YtcbdhheelddgeaaGreatDoor
open Go.RowKit K
namespace W
def ivs (L : List Int) : List Value := L.map fun x => .int .i64 x
def flt (pos : Int) (L : List Int) : List Int := L.filter fun x => decide (pos < x)
def hit (pos : Int) (L : List Int) : Bool := L.any fun x => decide (x ≤ pos)
theorem ivs_get (L : List Int) (j : Nat) : (ivs L)[j]? = L[j]?.map fun x => .int .i64 x := by simp [ivs]
theorem flt_append (pos : Int) (a b : List Int) : flt pos (a ++ b) = flt pos a ++ flt pos b := by simp [flt]
theorem flt_all {pos : Int} {L : List Int} (h : ∀ x ∈ L, pos < x) : flt pos L = L := by
 unfold flt; rw [List.filter_eq_self]; intro x hx; simpa using h x hx
theorem hit_none {pos : Int} {L : List Int} (h : ∀ x ∈ L, pos < x) : hit pos L = false := by
 unfold hit; rw [List.any_eq_false]; intro x hx; have := h x hx; simp; omega
theorem hit_some {pos : Int} {L : List Int} {k : Nat} {y : Int} (h : L[k]? = some y) (hy : y ≤ pos) : hit pos L = true := by
 unfold hit; rw [List.any_eq_true]; exact ⟨y, List.mem_of_getElem? h, by simpa using hy⟩
theorem own_same {base size n : Nat} {e : TypeId} {v : Value} {xs : List Value} {w w' : World} (h : w.ownsRow base e size v n xs) (hk : ∀ g, v.ownBlock = some g → w'.heap[g]? = w.heap[g]?) : w'.ownsRow base e size v n xs := by
 refine ⟨h.1, ?_⟩
 rcases h.2 with hn | ⟨g, cap, cur, rfl, hb, hgg, rest⟩
 ·exact .inl hn
 ·refine .inr ⟨g, cap, cur, rfl, hb, ?_, rest⟩
  rw [hk g rfl]
  exact hgg
theorem setCells_heap (g : Nat) : ∀ (vs : List Value) (o : Nat) (w : World), (w.setCells g o vs).heap.size = w.heap.size ∧ ∀ q, q ≠ g → (w.setCells g o vs).heap[q]? = w.heap[q]?
 | [], _, _ => ⟨rfl, fun _ _ => rfl⟩
 | v :: r, o, w => by
  rw [World.setCells]
  obtain ⟨h1, h2⟩ := setCells_heap g r (o + 1) (w.setCell ⟨g, o, none⟩ v)
  exact ⟨by rw [h1]; simp, fun q hq => (h2 q hq).trans (Below.heap_setCell _ _ _ _ (by dsimp only; exact hq))⟩
/-- Two blocks at most are written. -/
def Two (g gb : Nat) (w w' : World) : Prop := w'.heap.size = w.heap.size ∧ ∀ q, q ≠ g → q ≠ gb → w'.heap[q]? = w.heap[q]?
theorem Two.refl (g gb : Nat) (w : World) : Two g gb w w := ⟨rfl, fun _ _ _ => rfl⟩
theorem Two.trans {g gb : Nat} {a b c : World} (h : Two g gb a b) (k : Two g gb b c) : Two g gb a c := ⟨k.1.trans h.1, fun q h1 h2 => (k.2 q h1 h2).trans (h.2 q h1 h2)⟩
theorem Two.fst (g gb o : Nat) (v : Value) (w : World) : Two g gb w (w.setCell ⟨g, o, none⟩ v) := ⟨by simp, fun q h1 _ => Below.heap_setCell _ _ _ _ (by dsimp only; exact h1)⟩
theorem Two.snd (g gb o : Nat) (v : Value) (w : World) : Two g gb w (w.setCell ⟨gb, o, none⟩ v) := ⟨by simp, fun q _ h1 => Below.heap_setCell _ _ _ _ (by dsimp only; exact h1)⟩
/-- What DeleteFunc leaves. -/
def DelOut (L : List Int) (pos : Int) (base g : Nat) (s : List UInt8) (at_ : Int) (va vm vb vl : Value) (c h st : Bool) (v : Value) (w : World) (e : Ending) (w' : World) : Prop :=
 ∃ v', e = .returned v' ∧ w'.ownsRow base 3 1 v' (flt pos L).length (ivs (flt pos L)) ∧ v'.ownBlock = v.ownBlock ∧ EB w' g s at_ va vm vb (c || hit pos L) h st vl ∧ w'.heap.size = w.heap.size ∧ (∀ q, q ≠ g → v.ownBlock ≠ some q → w'.heap[q]? = w.heap[q]?) ∧ Below base w w'
theorem index_nil (A : Option Addr) (c pb xb : Nat) (w : World) :
  Calls Tryz.prog 68 #[.slice A 0 c, fnR pb xb] w fun e w' => e = .returned (.int .i64 (-1)) ∧ w' = w := by
 unfold fnR
 go_enter Tryz.func68, Tryz.ntmps68
 go_wp2
 go_loopg [8] 0 (fun gk i wr => i = .int .i64 0 ∧ wr = w)
 case atStart => exact ⟨rfl, rfl⟩
 case round =>
  obtain ⟨rfl, rfl⟩ := hrel
  go_wp2
  go_ret
  exact ⟨rfl, rfl⟩
end W
end Go.Proofs.YtcbdhheelddgeaaGreatDoor
namespace Go.Proofs.YtcbdhheelddgeaaGreatDoor
open Go.RowKit K
namespace W
theorem own_kind {w : World} {base size g n m cap : Nat} {e : TypeId} {xs : List Value} (h : w.ownsRow base e size (.slice (some ⟨g, 0, none⟩) n cap) m xs) : ∃ c fz, w.heap[g]? = some (.cells c e fz) := by
 rcases h.2 with ⟨h', _⟩ | ⟨q, k, cur, h', _, hq, _⟩
 ·simp at h'
 ·injection h' with e1
  injection e1 with e1
  injection e1 with e1
  exact ⟨cur, (0, 0), by rw [e1]; exact hq⟩
/-- The loop's world. -/
def DW (L : List Int) (pos : Int) (base g gb n cap i j : Nat) (s : List UInt8) (at_ : Int) (va vm vb vl : Value) (h st : Bool) (w wr : World) : Prop :=
 ∃ mid : List Int, wr.ownsRow base 3 1 (.slice (some ⟨gb, 0, none⟩) n cap) n (ivs (flt pos (L.take j) ++ mid ++ L.drop j)) ∧ (flt pos (L.take j)).length = i ∧ i + mid.length = j ∧ 0 < mid.length ∧ EB wr g s at_ va vm vb true h st vl ∧ Two g gb w wr ∧ Below base w wr
theorem DelOut.hit {L : List Int} {pos : Int} {base g : Nat} {s : List UInt8} {at_ : Int} {va vm vb vl : Value} {c h st : Bool} {v : Value} {w w' : World} {e : Ending} (o : DelOut L pos base g s at_ va vm vb vl true h st v w e w') (hh : hit pos L = true) : DelOut L pos base g s at_ va vm vb vl c h st v w e w' := by
 obtain ⟨v', a1, a2, a3, a4, a5, a6, a7⟩ := o
 exact ⟨v', a1, a2, a3, by rw [hh, Bool.or_true] at *; exact a4, a5, a6, a7⟩
section
variable {L : List Int} {pos : Int} {base g gb n cap i j : Nat} {s : List UInt8} {at_ : Int} {va vm vb vl : Value} {h st : Bool} {w wr : World}
theorem DW.get (d : DW L pos base g gb n cap i j s at_ va vm vb vl h st w wr) (hn : n = L.length) {y : Int} (hy : L[j]? = some y) : wr.cell? ⟨gb, j, none⟩ = some (.int .i64 y) := by
 obtain ⟨mid, ho, hi, hm, hp, _⟩ := d
 have hj := (List.getElem?_eq_some_iff.1 hy).1
 rw [ho.cellAt j (by omega), ivs_get, List.getElem?_append_right (by rw [List.length_append]; omega), List.getElem?_drop, List.length_append, show j + (j - ((flt pos (L.take j)).length + mid.length)) = j by omega, hy]
 rfl
theorem DW.put (d : DW L pos base g gb n cap i j s at_ va vm vb vl h st w wr) (hn : n = L.length) (hjn : j ≤ n) : (wr.cell? ⟨gb, i, none⟩).isSome = true ∧ wr.frozen? ⟨gb, i, none⟩ = false ∧ i < j := by
 obtain ⟨mid, ho, hi, hm, hp, _⟩ := d
 refine ⟨?_, ho.frozenAt _, by omega⟩
 have hl := ho.1
 rw [ho.cellAt i (by omega), List.getElem?_eq_getElem (by omega)]
 rfl
theorem DW.skip (d : DW L pos base g gb n cap i j s at_ va vm vb vl h st w wr) {y : Int} (hy : L[j]? = some y) (hyp : y ≤ pos) (hgb : gb ≠ g) (hbg : base ≤ g) : DW L pos base g gb n cap i (j + 1) s at_ va vm vb vl h st w (wr.setCell ⟨g, 5, none⟩ (.bool true)) := by
 obtain ⟨mid, ho, hi, hm, hp, he, ht, hb⟩ := d
 have hj := (List.getElem?_eq_some_iff.1 hy).1
 have hf : flt pos (L.take (j + 1)) = flt pos (L.take j) := by
  rw [AL.take_one hy, flt_append]
  unfold flt
  rw [List.filter_cons_of_neg (by simpa using hyp)]
  simp
 have hd : L.drop j = y :: L.drop (j + 1) := by rw [List.drop_eq_getElem_cons hj]; congr 1; exact (List.getElem?_eq_some_iff.1 hy).2
 refine ⟨mid ++ [y], ?_, by rw [hf]; exact hi, by simp; omega, by simp, he.set5 true, ht.trans (Two.fst g gb 5 _ _), hb.setCell (p := ⟨g, 5, none⟩) hbg _⟩
 rw [hf]
 rw [hd] at ho
 have := own_same (w' := wr.setCell ⟨g, 5, none⟩ (.bool true)) ho (fun q hq => Below.heap_setCell _ _ _ _ (by simp [Value.ownBlock] at hq; dsimp only; omega))
 simpa using this
theorem DW.keep (d : DW L pos base g gb n cap i j s at_ va vm vb vl h st w wr) {y : Int} (hy : L[j]? = some y) (hyp : pos < y) (hgb : gb ≠ g) (hbg : base ≤ gb) : DW L pos base g gb n cap (i + 1) (j + 1) s at_ va vm vb vl h st w (wr.setCell ⟨gb, i, none⟩ (.int .i64 y)) := by
 obtain ⟨mid, ho, hi, hm, hp, he, ht, hb⟩ := d
 have hj := (List.getElem?_eq_some_iff.1 hy).1
 have hf : flt pos (L.take (j + 1)) = flt pos (L.take j) ++ [y] := by
  rw [AL.take_one hy, flt_append]
  unfold flt
  rw [List.filter_cons_of_pos (by simpa using hyp)]
  simp
 have hd : L.drop j = y :: L.drop (j + 1) := by rw [List.drop_eq_getElem_cons hj]; congr 1; exact (List.getElem?_eq_some_iff.1 hy).2
 obtain ⟨m0, mid', rfl⟩ : ∃ m0 mid', mid = m0 :: mid' := by
  cases mid with
  | nil => simp at hp
  | cons a b => exact ⟨a, b, rfl⟩
 refine ⟨mid' ++ [y], ?_, by rw [hf]; simp; omega, by simp at hm ⊢; omega, by simp, he.kept (Below.heap_setCell _ _ _ _ (by dsimp only; omega)), ht.trans (Two.snd g gb i _ _), hb.setCell (p := ⟨gb, i, none⟩) hbg _⟩
 rw [hf]
 rw [hd] at ho
 have h2 := (ho.stored i (.int .i64 y)).1
 have : (ivs (flt pos (L.take j) ++ (m0 :: mid') ++ y :: L.drop (j + 1))).set i (.int .i64 y) = ivs (flt pos (L.take j) ++ [y] ++ (mid' ++ [y]) ++ L.drop (j + 1)) := by
  unfold ivs
  simp only [List.map_append, List.map_cons, List.append_assoc, List.cons_append, List.nil_append]
  rw [List.set_append_right _ _ (by rw [List.length_map]; omega), List.length_map, show i - (flt pos (L.take j)).length = 0 by omega, List.set_cons_zero]
 rw [this] at h2
 exact h2
theorem DW.done (d : DW L pos base g gb n cap i n s at_ va vm vb vl h st w wr) (hn : n = L.length) (hgb : gb ≠ g) (hbg : base ≤ gb) :
  i < n ∧ (∀ ty, (Builtin.clear_ #[41] ty #[.slice (some ⟨gb, i, none⟩) (n - i) (cap - i)]).run Tryz.prog wr = .ok (.tuple #[]) (wr.setCells gb i (List.replicate (n - i) (.int .i64 0)))) ∧
   DelOut L pos base g s at_ va vm vb vl true h st (.slice (some ⟨gb, 0, none⟩) n cap) w (.returned (.slice (some ⟨gb, 0, none⟩) i cap)) (wr.setCells gb i (List.replicate (n - i) (.int .i64 0))) := by
 obtain ⟨mid, ho, hi, hm, hp, he, ht, hb⟩ := d
 have hl := ho.1
 have ht0 : L.take n = L := by rw [hn, List.take_length]
 have hd0 : L.drop n = [] := by rw [hn, List.drop_length]
 rw [ht0] at hi
 rw [ht0, hd0, List.append_nil] at ho hl
 obtain ⟨hs1, hs2⟩ := setCells_heap gb (List.replicate (n - i) (.int .i64 0)) i wr
 have hown := own_setCells (List.replicate (n - i) (.int .i64 0)) i _ _ ho
 have hsh := own_shrink hown (show i ≤ n by omega)
 have hx : (over (ivs (flt pos L ++ mid)) i (List.replicate (n - i) (.int .i64 0))).take (i * 1) = ivs (flt pos L) := by
  rw [over_eq _ _ _ (by rw [List.length_replicate]; omega), Nat.mul_one, List.append_assoc, List.take_append_of_le_length (by rw [List.length_take]; omega), List.take_take, Nat.min_self]
  unfold ivs
  rw [List.map_append, List.take_append_of_le_length (by rw [List.length_map]; omega), List.take_of_length_le (by rw [List.length_map]; omega)]
 rw [hx] at hsh
 refine ⟨by omega, fun ty => ?_, _, rfl, by rw [hi]; exact hsh, rfl, ?_, hs1.trans ht.1, fun q h1 h2 => (hs2 q (fun e => h2 (by rw [e]; rfl))).trans (ht.2 q h1 (fun e => h2 (by rw [e]; rfl))), Lib.below_setCells gb hbg _ _ hb⟩
 ·exact Lib.run_clear_slice wr 41 3 ty (.int .i64 0) Tryz.underlying41 (fun w => by kernel_rfl) rfl rfl gb i (n - i) (cap - i) (by omega)
   (fun q hq => by rw [ho.cellAt _ (by omega), List.getElem?_eq_getElem (by omega)]; rfl) (fun q hq => ho.frozenAt _)
 ·rw [Bool.true_or]
  exact he.kept (hs2 g (fun e => hgb e.symm))
end
set_option maxRecDepth 100000 in
set_option maxHeartbeats 4000000 in
theorem DeleteFunc_any (L : List Int) (pos : Int) (pb xb base g : Nat) (s : List UInt8) (at_ : Int) (va vm vb vl : Value) (c h st : Bool) (v : Value) (w : World) (hown : w.ownsRow base 3 1 v L.length (ivs L)) (he : EB w g s at_ va vm vb c h st vl) (hbg : base ≤ g) (c0 : w.cell? ⟨pb, 0, none⟩ = some (.int .i64 pos)) (x0 : w.cell? ⟨xb, 0, none⟩ = some (.pointer (some ⟨g, 0, none⟩))) (hpg : pb ≠ g) (hxg : xb ≠ g) (hpv : v.ownBlock ≠ some pb) (hxv : v.ownBlock ≠ some xb) (hl : L.length ≤ 2000000) :
  Calls Tryz.prog 31 #[v, fnR pb xb] w (DelOut L pos base g s at_ va vm vb vl c h st v w) := by
 by_cases h0 : L.length = 0
 ·have hL : L = [] := List.length_eq_zero_iff.1 h0
  subst hL
  obtain ⟨A, cc, hv⟩ : ∃ A cc, v = .slice A 0 cc := by
   rcases hown.2 with ⟨rfl, _⟩ | ⟨q, cap, cur, rfl, _⟩
   ·exact ⟨_, _, rfl⟩
   ·exact ⟨_, _, rfl⟩
  have HC := Lib.hid (index_nil A cc pb xb w)
  have HO := Lib.hid (show DelOut [] pos base g s at_ va vm vb vl c h st v w (.returned v) w from ⟨v, rfl, hown, rfl, by simpa [hit] using he, rfl, fun _ _ _ => rfl, Below.refl _ _⟩)
  rw [hv] at HO ⊢
  clear hown he c0 x0 hpg hxg hpv hxv hv hl h0 hbg
  go_enter Tryz.func31, Tryz.ntmps31
  go_wp2_with fail
  refine HC.out.mono ?_
  rintro e w1 ⟨rfl, rfl⟩
  go_wp2
  go_ret
  exact HO.out
 obtain ⟨gb, cap, hv, hcell⟩ := row_some hown (by omega)
 have hcap : L.length ≤ cap := by
  rcases hown.2 with ⟨h', _⟩ | ⟨g', cap', cur, h', hb, hg, hnc, hcm, hcs, htake⟩
  ·omega
  ·rw [hv] at h'
   injection h' with e1 e2 e3
   omega
 subst hv
 have hgb : gb ≠ g := fun e => by
  obtain ⟨cs, fz, hk⟩ := own_kind hown
  rw [e, he] at hk
  simp at hk
 have hbb : base ≤ gb := (hown.lt gb rfl).1
 have hpq : pb ≠ gb := fun e => hpv (by rw [e]; rfl)
 have hxq : xb ≠ gb := fun e => hxv (by rw [e]; rfl)
 have HI := Lib.hid (index_any L pos pb xb g gb cap c w hpg c0 x0 he.cells.2.2.2.2.2.1 (he.thaw 5) (fun j x hx => hcell j _ (by rw [ivs_get, hx]; rfl)) hl)
 have HNO := Lib.hid (show (∀ x ∈ L, pos < x) → DelOut L pos base g s at_ va vm vb vl c h st (.slice (some ⟨gb, 0, none⟩) L.length cap) w (.returned (.slice (some ⟨gb, 0, none⟩) L.length cap)) w from fun ha =>
  ⟨_, rfl, by rw [flt_all ha]; exact hown, rfl, by rw [hit_none ha, Bool.or_false]; exact he, rfl, fun _ _ _ => rfl, Below.refl _ _⟩)
 have HD0 := Lib.hid (fun (k : Nat) (y : Int) (hk : L[k]? = some y) (hy : y ≤ pos) (ha : ∀ x ∈ L.take k, pos < x) => (show DW L pos base g gb L.length cap k (k + 1) s at_ va vm vb vl h st w (w.setCell ⟨g, 5, none⟩ (.bool true)) from by
  have hj := (List.getElem?_eq_some_iff.1 hk).1
  have hf : flt pos (L.take (k + 1)) = L.take k := by
   rw [AL.take_one hk, flt_append, flt_all ha]
   unfold flt
   rw [List.filter_cons_of_neg (by simpa using hy)]
   simp
  refine ⟨[y], ?_, by rw [hf, List.length_take]; omega, by simp, by simp, he.set5 true, Two.fst g gb 5 _ _, (Below.refl _ _).setCell (p := ⟨g, 5, none⟩) hbg _⟩
  rw [hf, ← AL.take_one hk, List.take_append_drop]
  exact own_same hown (fun q hq => Below.heap_setCell _ _ _ _ (by simp [Value.ownBlock] at hq; dsimp only; omega))))
 have HT := Lib.hid (fun (V : World) (ht : Two g gb w V) => (⟨(World.cell?_of_block (ht.2 pb hpg hpq)).trans c0, (World.cell?_of_block (ht.2 xb hxg hxq)).trans x0⟩ : V.cell? ⟨pb, 0, none⟩ = some (.int .i64 pos) ∧ V.cell? ⟨xb, 0, none⟩ = some (.pointer (some ⟨g, 0, none⟩))))
 have HX := Lib.hid (show pb ≠ g ∧ gb ≠ g ∧ base ≤ g ∧ base ≤ gb from ⟨hpg, hgb, hbg, hbb⟩)
 have HHIT := Lib.hid (fun (k : Nat) (y : Int) (hk : L[k]? = some y) (hy : y ≤ pos) => hit_some hk hy)
 obtain ⟨n, hn⟩ : ∃ n, n = L.length := ⟨_, rfl⟩
 rw [← hn] at hl hcap h0 HI HNO HD0 ⊢
 have HN := Lib.hid hn
 have hn0 : (0 : Int) ≤ (n : Int) := by omega
 have hn1 : (n : Int) ≤ 2000000 := by omega
 clear hown he c0 x0 hpg hxg hpv hxv hpq hxq hcell hbg hbb hgb hn
 unfold fnR at *
 go_enter Tryz.func31, Tryz.ntmps31
 go_wp2_with fail
 refine HI.out.mono ?_
 rintro e w1 (⟨ha, rfl, rfl⟩ | ⟨k, y, hk, hy, ha, rfl, rfl⟩)
 ·have HO := Lib.hid (HNO.out ha)
  clear ha
  go_wp2
  go_ret
  exact HO.out
 have HD := Lib.hid (HD0.out k y hk hy ha)
 have HH := Lib.hid (HHIT.out k y hk hy)
 have hkn : (k : Int) < (n : Int) := by have := (List.getElem?_eq_some_iff.1 hk).1; have := HN.out; omega
 have hkn2 : ¬ (k : Int) = -1 := by omega
 have hkn3 : ((k : Int) == -1) = false := by rw [beq_eq_false_iff_ne]; exact hkn2
 clear ha hk hy HNO HHIT HD0 HI
 go_wp2
 go_loopg [5, 6, 7] (n - (k + 1)) (fun gk x5 x6 x7 wr => ∃ i j : Nat, j ≤ n ∧ gk = n - j ∧ x5 = .int .i64 i ∧ x6 = .int .i64 j ∧ Hid (DW L pos base g gb n cap i j s at_ va vm vb vl h st w wr))
 case atStart => exact ⟨k, k + 1, by omega, rfl, rfl, by go_num, HD⟩
 case round =>
  obtain ⟨i, j, hj, rfl, rfl, rfl, HDW⟩ := hrel
  by_cases hlt : j < n
  ·have hlt2 : (j : Int) < (n : Int) := by omega
   obtain ⟨y, hy⟩ : ∃ y, L[j]? = some y := ⟨_, List.getElem?_eq_getElem (by have := HN.out; omega)⟩
   have r0 := HDW.out.get HN.out hy
   have HLT := Lib.hid hlt
   obtain ⟨t2, hb⟩ : Two g gb w wr ∧ Below base w wr := by obtain ⟨_, _, _, _, _, _, a, b⟩ := HDW.out; exact ⟨a, b⟩
   have eb : EB wr g s at_ va vm vb true h st vl := by obtain ⟨_, _, _, _, _, a, _⟩ := HDW.out; exact a
   by_cases hyp : y ≤ pos
   ·have HC := Lib.hid (reach1_yes y pos pb xb g true wr hyp HX.out.1 (HT.out wr t2).1 (HT.out wr t2).2 eb.cells.2.2.2.2.2.1 (eb.thaw 5))
    have HD2 := Lib.hid (HDW.out.skip hy hyp HX.out.2.1 HX.out.2.2.1)
    clear hyp hy t2 hb eb
    go_wp2_with fail
    refine HC.out.mono ?_
    rintro e w1 ⟨rfl, rfl⟩
    go_wp2
    go_roundg (n - (j + 1))
    case measure => have := HLT.out; omega
    case rel => exact ⟨i, j + 1, HLT.out, rfl, rfl, by go_num, HD2⟩
   ·have HC := Lib.hid (reach1_no y pos pb xb wr (by omega) (HT.out wr t2).1)
    have HD2 := Lib.hid (HDW.out.keep hy (by omega) HX.out.2.1 HX.out.2.2.2)
    obtain ⟨p1, p2, p3⟩ := HDW.out.put HN.out hj
    obtain ⟨u, p1⟩ := Option.isSome_iff_exists.1 p1
    have p4 : (i : Int) < (n : Int) := by omega
    have p5 : (0 : Int) ≤ (i : Int) := by omega
    clear hyp hy t2 hb eb p3
    go_wp2_with fail
    refine HC.out.mono ?_
    rintro e w1 ⟨rfl, rfl⟩
    go_wp2
    go_roundg (n - (j + 1))
    case measure => have := HLT.out; omega
    case rel => exact ⟨i + 1, j + 1, HLT.out, rfl, by go_num, by go_num, HD2⟩
  ·have hlt2 : ¬ (j : Int) < (n : Int) := by omega
   have hjn : j = n := by omega
   subst hjn
   obtain ⟨hin, hcl, hO⟩ := HDW.out.done HN.out HX.out.2.1 HX.out.2.2.2
   have HO := Lib.hid hO
   have HCL := Lib.hid hcl
   have k1 : ¬ cap = i := by omega
   have k2 : i ≤ j := by omega
   have k3 : i ≤ cap := by omega
   have k4 : (i : Int) ≤ (j : Int) := by omega
   have k5 : (0 : Int) ≤ (i : Int) := by omega
   clear hin hO
   go_wp2
   go_ret
   exact HO.out.hit HH.out
end W
end Go.Proofs.YtcbdhheelddgeaaGreatDoor
namespace Go.Proofs.YtcbdhheelddgeaaGreatDoor
open Go.RowKit K
namespace W
/-- What reach leaves. -/
def ReachOut (L : List Int) (pos : Int) (base g : Nat) (s : List UInt8) (at_ : Int) (va vm vb vl : Value) (c h st : Bool) (w : World) (e : Ending) (w' : World) : Prop :=
 ∃ vb', e = .returned (.tuple #[]) ∧ w'.ownsRow base 3 1 vb' (flt pos L).length (ivs (flt pos L)) ∧ vb'.ownBlock = vb.ownBlock ∧ EB w' g s at_ va vm vb' (c || hit pos L) h st vl ∧ w.heap.size ≤ w'.heap.size ∧ (∀ q, q < w.heap.size → q ≠ g → vb.ownBlock ≠ some q → w'.heap[q]? = w.heap[q]?) ∧ Below base w w'
theorem EB.new {W W' : World} {g : Nat} {s : List UInt8} {at_ : Int} {va vm vb vl : Value} {c h st : Bool} (e : EB W g s at_ va vm vb c h st vl) (hb : Below W.heap.size W W') : EB W' g s at_ va vm vb c h st vl := e.kept (hb.block _ e.lt)
set_option maxRecDepth 100000 in
set_option maxHeartbeats 4000000 in
theorem reach_any (L : List Int) (pos : Int) (base g : Nat) (s : List UInt8) (at_ : Int) (va vm vb vl : Value) (c h st : Bool) (w : World) (hown : w.ownsRow base 3 1 vb L.length (ivs L)) (he : EB w g s at_ va vm vb c h st vl) (hbg : base ≤ g) (hl : L.length ≤ 2000000) :
  Calls Tryz.prog 13 #[.pointer (some ⟨g, 0, none⟩), .int .i64 pos] w (ReachOut L pos base g s at_ va vm vb vl c h st w) := by
 have hgs := he.lt
 have hbs : base ≤ w.heap.size := by omega
 have hvs : ∀ k, vb.ownBlock = some k → k < w.heap.size := fun k hk => (hown.lt k hk).2
 have HC := Lib.hid (fun (V : World) (hb : Below w.heap.size w V) (x0 : V.cell? ⟨w.heap.size, 0, none⟩ = some (.pointer (some ⟨g, 0, none⟩))) (c0 : V.cell? ⟨w.heap.size + 1, 0, none⟩ = some (.int .i64 pos)) =>
  DeleteFunc_any L pos (w.heap.size + 1) w.heap.size base g s at_ va vm vb vl c h st vb V (own_same hown fun k hk => hb.block k (hvs k hk)) (he.new hb) hbg c0 x0 (by omega) (by omega) (fun hk => by have := hvs _ hk; omega) (fun hk => by have := hvs _ hk; omega) hl)
 have HF := Lib.hid (fun (V : World) (hb : Below w.heap.size w V) (e : Ending) (V1 : World) (hd : DelOut L pos base g s at_ va vm vb vl c h st vb V e V1) => (show ∃ A n k, e = .returned (.slice A n k) ∧ V1.cell? ⟨w.heap.size, 0, none⟩ = V.cell? ⟨w.heap.size, 0, none⟩ ∧ V1.cell? ⟨g, 4, none⟩ = some vb ∧ V1.frozen? ⟨g, 4, none⟩ = false ∧ ReachOut L pos base g s at_ va vm vb vl c h st w (.returned (.tuple #[])) (V1.setCell ⟨g, 4, none⟩ (.slice A n k)) from by
  obtain ⟨v', a1, a2, a3, a4, a5, a6, a7⟩ := hd
  obtain ⟨A, n, k, rfl⟩ : ∃ A n k, v' = .slice A n k := by
   rcases a2.2 with ⟨rfl, _⟩ | ⟨q, cap, cur, rfl, _⟩
   ·exact ⟨_, _, _, rfl⟩
   ·exact ⟨_, _, _, rfl⟩
  refine ⟨A, n, k, a1, World.cell?_of_block (a6 w.heap.size (by omega) (fun hk => by have := hvs _ hk; omega)), a4.cells.2.2.2.2.1, a4.thaw 4, _, rfl, ?_, a3, a4.set4 _, ?_, fun q h1 h2 h3 => ?_, ?_⟩
  ·refine own_same a2 fun k hk => Below.heap_setCell _ _ _ _ ?_
   dsimp only
   rintro rfl
   rcases a2.2 with ⟨e1, _⟩ | ⟨q, cap, cur, e1, _, hq, _⟩
   ·injection e1 with e1
    rw [e1] at hk
    simp [Value.ownBlock] at hk
   ·injection e1 with e1
    rw [e1] at hk
    simp [Value.ownBlock] at hk
    rw [hk, a4] at hq
    simp at hq
  ·have := hb.size; simp; omega
  ·rw [Below.heap_setCell _ _ _ _ (by dsimp only; exact h2), a6 q h2 h3]
   exact hb.block q h1
  ·exact ((hb.mono hbs).trans a7).setCell (p := ⟨g, 4, none⟩) hbg _))
 obtain ⟨k0, k1, k2, k3, k4, -⟩ := he.cells
 have f4 := he.thaw 4
 have HG := Lib.hid hgs
 have hgn : g ≠ w.heap.size := by omega
 have hgn2 : g ≠ w.heap.size + 1 := by omega
 clear hown he hbg hl hbs hvs k0 k1 k2 k3
 go_enter Tryz.func13, Tryz.ntmps13
 go_wp2_with fail
 obtain ⟨V, hV⟩ : ∃ V, V = (w.alloc (.cells #[.pointer (some ⟨g, 0, none⟩)] 39)).alloc (.cells #[.int .i64 pos] 3) := ⟨_, rfl⟩
 rw [← hV]
 have hb : Below w.heap.size w V.drew := by rw [hV]; exact (Below.alloc (balloc w _) (by simp) _).drew
 have x0 : V.cell? ⟨w.heap.size, 0, none⟩ = some (.pointer (some ⟨g, 0, none⟩)) := by
  rw [hV]
  exact Lib.cell_of_heap ((Below.heap_alloc _ _ _ (by simp)).trans (al_new w _)) 0
 have c0 : V.cell? ⟨w.heap.size + 1, 0, none⟩ = some (.int .i64 pos) := by
  rw [hV]
  have := al_new (w.alloc (.cells #[.pointer (some ⟨g, 0, none⟩)] 39)) (.cells #[.int .i64 pos] 3)
  rw [World.size_alloc] at this
  exact Lib.cell_of_heap this 0
 have v4 : V.cell? ⟨g, 4, none⟩ = some vb := (hb.cell (p := ⟨g, 4, none⟩) HG.out).trans k4
 have HD := Lib.hid (HC.out V.drew hb x0 c0)
 have HE := Lib.hid (HF.out V.drew hb)
 have HX := Lib.hid x0
 unfold fnR at HD
 clear hV hb c0 k4 f4 HC HF hgn hgn2
 go_region_with ((go_at_call 31; refine HD.out.mono ?_; rintro e V1 hd; obtain ⟨A, n, k, rfl, b1, b2, b3, b4⟩ := HE.out _ _ hd; replace b1 := b1.trans HX.out))
 all_goals (have HO := Lib.hid b4; clear b4)
 all_goals ((first | go_end0 | refine bodyPost_ret (results_none rfl _ _ _) rfl ?_); exact HO.out)
end W
end Go.Proofs.YtcbdhheelddgeaaGreatDoor
