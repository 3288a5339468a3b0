/- Several texts in one: G15 P15 W15a W15b W15c Q21 W15d. -/
import Derived.Test.YtkceenmlhfkkhaaGreatDoorW08a
import Derived.Test.YtkceenmlhfkkhaaGreatDoorK
import Derived.Laws.Cover1
import Derived.Sort.Walk0
import Derived.Laws.MakeOwn
import Derived.Maps.AppendAt
import Derived.Test.YtkceenmlhfkkhaaGreatDoorYP
import Derived.Test.YtkceenmlhfkkhaaGreatDoorW07a
namespace Go.Proofs.YtkceenmlhfkkhaaGreatDoor
open Go.RowKit K
namespace W
theorem own_casesN {w : World} {base m : Nat} {e : TypeId} {v : Value} {n : Nat} {xs : List Value} (h : w.ownsRow base e m v n xs) : (v = .slice none 0 0 ∧ n = 0) ∨ ∃ g cap, v = .slice (some ⟨g, 0, none⟩) n cap ∧ n ≤ cap ∧ cap ≤ 9223372036854775807 ∧ g < w.heap.size := by
  rcases h.2 with h | ⟨g, cap, cur, hv, hg, hh, h1, h2, _⟩
  · exact .inl h
  · exact .inr ⟨g, cap, hv, h1, by unfold maxLen at h2; exact h2, (Array.getElem?_eq_some_iff.1 hh).1⟩
theorem info_parts {t : TypeId} {z : Value} {s b : Nat} (h : (Tryz.prog.info? t).map (fun i => (i.zero, i.size, i.bytes)) = some (some z, s, b)) : ∃ i, Tryz.prog.info? t = some i ∧ i.zero = some z ∧ i.size = s ∧ i.bytes = b := by
  obtain ⟨i, hi, he⟩ := Option.map_eq_some_iff.1 h
  simp only [Prod.mk.injEq] at he
  exact ⟨i, hi, he.1, he.2.1, he.2.2⟩
theorem infoStr : (Tryz.prog.info? 9).map (fun i => (i.zero, i.size, i.bytes)) = some (some (.string ⟨#[]⟩), 1, 16) := by kernel_rfl
section
variable {α : Type} {m : Nat} {enc : α → List Value}
theorem flat_len (hm : ∀ x, (enc x).length = m) : ∀ l : List α, (l.flatMap enc).length = l.length * m
  | [] => by simp
  | x :: l => by rw [List.flatMap_cons, List.length_append, flat_len hm l, hm, List.length_cons, Nat.succ_mul]; omega
theorem flat_at (hm : ∀ x, (enc x).length = m) : ∀ {l : List α} {i : Nat} {x : α}, l[i]? = some x → ∀ (j : Nat) (u : Value), (enc x)[j]? = some u → (l.flatMap enc)[i * m + j]? = some u
  | [], _, _, h, _, _, _ => by simp at h
  | y :: l, 0, x, h, j, u, hj => by
    simp at h; subst h
    rw [List.flatMap_cons, Nat.zero_mul, Nat.zero_add, List.getElem?_append_left]
    · exact hj
    · exact (List.getElem?_eq_some_iff.1 hj).1
  | y :: l, i + 1, x, h, j, u, hj => by
    rw [List.getElem?_cons_succ] at h
    rw [List.flatMap_cons, List.getElem?_append_right (by rw [hm, Nat.succ_mul]; omega), hm, show (i + 1) * m + j - m = i * m + j by rw [Nat.succ_mul]; omega]
    exact flat_at hm h j u hj
theorem flat_of (hm : ∀ x, (enc x).length = m) : ∀ {l : List α} {k : Nat} {u : Value}, (l.flatMap enc)[k]? = some u → ∃ i x j, l[i]? = some x ∧ (enc x)[j]? = some u ∧ k = i * m + j
  | [], _, _, h => by simp at h
  | y :: l, k, u, h => by
    rw [List.flatMap_cons] at h
    rcases Nat.lt_or_ge k m with hk | hk
    · rw [List.getElem?_append_left (by rw [hm]; exact hk)] at h
      exact ⟨0, y, k, rfl, h, by omega⟩
    · rw [List.getElem?_append_right (by rw [hm]; exact hk), hm] at h
      obtain ⟨i, x, j, h1, h2, h3⟩ := flat_of hm h
      exact ⟨i + 1, x, j, by rw [List.getElem?_cons_succ]; exact h1, h2, by rw [Nat.succ_mul]; omega⟩
/-- The elements l stand in block b from off on, m cells each. -/
def RAt (m : Nat) (enc : α → List Value) (w : World) (b off : Nat) (l : List α) : Prop := ∀ (i : Nat) (x : α), l[i]? = some x → ∀ (j : Nat) (u : Value), (enc x)[j]? = some u → w.cell? ⟨b, off + i * m + j, none⟩ = some u
/-- A slice of such elements. -/
def RV (m : Nat) (enc : α → List Value) (w : World) (v : Value) (l : List α) : Prop :=
  ∃ A cap, v = .slice A l.length cap ∧ l.length ≤ cap ∧ (l = [] ∨ ∃ b off, A = some ⟨b, off, none⟩ ∧ b < w.heap.size ∧ RAt m enc w b off l)
theorem RAt.below {w w' : World} {b off : Nat} {l : List α} (h : RAt m enc w b off l) (hb : Below w.heap.size w w') (hlt : b < w.heap.size) : RAt m enc w' b off l :=
  fun i x hi j u hj => (hb.cell (p := ⟨b, off + i * m + j, none⟩) hlt).trans (h i x hi j u hj)
theorem RV.below {w w' : World} {v : Value} {l : List α} (h : RV m enc w v l) (hb : Below w.heap.size w w') : RV m enc w' v l := by
  obtain ⟨A, cap, rfl, hc, h⟩ := h
  refine ⟨A, cap, rfl, hc, ?_⟩
  rcases h with h | ⟨b, off, h1, h2, h3⟩
  · exact .inl h
  · exact .inr ⟨b, off, h1, Nat.lt_of_lt_of_le h2 hb.size, h3.below hb h2⟩
theorem RV.keep {w w' : World} {B : Nat} {v : Value} {l : List α} (h : RV m enc w v l) (hB : w.heap.size ≤ B) (hb : Below B w w') : RV m enc w' v l := h.below (hb.mono hB)
theorem RV.nil (w : World) : RV m enc w (.slice none 0 0) [] := ⟨none, 0, rfl, Nat.zero_le _, .inl rfl⟩
theorem RV.slice {w : World} {v : Value} {l : List α} (h : RV m enc w v l) : ∃ A cap, v = .slice A l.length cap ∧ l.length ≤ cap := by
  obtain ⟨A, cap, rfl, hc, _⟩ := h
  exact ⟨A, cap, rfl, hc⟩
theorem RV.get {w : World} {A : Option Addr} {n cap : Nat} {l : List α} (h : RV m enc w (.slice A n cap) l) {i : Nat} {x : α} (hi : l[i]? = some x) :
    ∃ b off, A = some ⟨b, off, none⟩ ∧ b < w.heap.size ∧ ∀ j u, (enc x)[j]? = some u → w.cell? ⟨b, off + i * m + j, none⟩ = some u := by
  obtain ⟨A', cap', h1, hc, h2⟩ := h
  injection h1 with h1 h3 h4
  subst h1
  rcases h2 with h2 | ⟨b, off, hA, hlt, hr⟩
  · rw [h2] at hi; simp at hi
  · exact ⟨b, off, hA, hlt, hr i x hi⟩
theorem RV.at_ {w : World} {A : Option Addr} {n cap : Nat} {l : List α} (h : RV m enc w (.slice A n cap) l) (hl : l ≠ []) : n = l.length ∧ ∃ b off, A = some ⟨b, off, none⟩ ∧ b < w.heap.size ∧ RAt m enc w b off l := by
  obtain ⟨A', cap', h1, hc, h2⟩ := h
  injection h1 with h1 h3 h4
  subst h1
  rcases h2 with h2 | ⟨b, off, hA, hlt, hr⟩
  · exact absurd h2 hl
  · exact ⟨h3, b, off, hA, hlt, hr⟩
theorem RAt.flat {w : World} {b off : Nat} {l : List α} (h : RAt m enc w b off l) (hm : ∀ x, (enc x).length = m) : ∀ j u, (l.flatMap enc)[j]? = some u → w.cell? ((⟨b, off, none⟩ : Addr).add j) = some u := by
  intro k u hk
  obtain ⟨i, x, j, h1, h2, rfl⟩ := flat_of hm hk
  have := h i x h1 j u h2
  rw [Nat.add_assoc] at this
  rw [show (⟨b, off, none⟩ : Addr).add (i * m + j) = ⟨b, off + (i * m + j), none⟩ by unfold Addr.add; split <;> simp_all]
  exact this
theorem RAt.of_flat {w : World} {b off : Nat} {l : List α} (hm : ∀ x, (enc x).length = m) (h : ∀ j u, (l.flatMap enc)[j]? = some u → w.cell? ⟨b, off + j, none⟩ = some u) : RAt m enc w b off l := by
  intro i x hi j u hj
  have := h _ u (flat_at hm hi j u hj)
  rw [← Nat.add_assoc] at this
  exact this
theorem RAt.drop {w : World} {b off : Nat} {l : List α} (h : RAt m enc w b off l) (k : Nat) : RAt m enc w b (off + k * m) (l.drop k) := by
  intro i x hi j u hj
  rw [List.getElem?_drop] at hi
  have := h (k + i) x hi j u hj
  rw [show off + k * m + i * m + j = off + (k + i) * m + j by rw [Nat.add_mul]; omega]
  exact this
theorem RAt.take {w : World} {b off : Nat} {l : List α} (h : RAt m enc w b off l) (k : Nat) : RAt m enc w b off (l.take k) := by
  intro i x hi j u hj
  refine h i x ?_ j u hj
  rw [List.getElem?_take] at hi
  split at hi
  · exact hi
  · cases hi
/-- An own row of such elements. -/
def OR (m : Nat) (enc : α → List Value) (T : TypeId) (base : Nat) (w : World) (v : Value) (l : List α) : Prop := w.ownsRow base T m v l.length (l.flatMap enc)
theorem OR.rv {T : TypeId} {base : Nat} {w : World} {v : Value} {l : List α} (h : OR m enc T base w v l) (hm : ∀ x, (enc x).length = m) : RV m enc w v l := by
  unfold OR at h
  rcases own_casesN h with ⟨h1, h2⟩ | ⟨g, cap, h1, h2, h3, h4⟩
  · rw [List.eq_nil_of_length_eq_zero h2, h1]; exact RV.nil w
  · refine ⟨_, cap, h1, h2, .inr ⟨g, 0, rfl, h4, RAt.of_flat hm fun j u hj => ?_⟩⟩
    have := h.cells (g := g) (by rw [h1]; rfl) j u hj
    rw [Nat.zero_add]
    rw [show (⟨g, 0, none⟩ : Addr).add j = ⟨g, j, none⟩ by unfold Addr.add; split <;> simp_all] at this
    exact this
theorem OR.nil (T : TypeId) (base : Nat) (w : World) : OR m enc T base w (.slice none 0 0) [] := ⟨by simp, .inl ⟨rfl, rfl⟩⟩
theorem OR.below {T : TypeId} {base : Nat} {w w' : World} {v : Value} {l : List α} (h : OR m enc T base w v l) (hb : Below w.heap.size w w') : OR m enc T base w' v l := row_below h hb
theorem OR.val {T : TypeId} {base : Nat} {w : World} {v : Value} {l : List α} (h : OR m enc T base w v l) : ∃ A c, v = .slice A l.length c := row_val h
end
/-- Strings, and strings with an int. -/
def es (s : List UInt8) : List Value := [.string ⟨s.toArray⟩]
def e2 (r : List UInt8 × Int) : List Value := [.string ⟨r.1.toArray⟩, .int .i64 r.2]
theorem es_len (x : List UInt8) : (es x).length = 1 := rfl
theorem e2_len (x : List UInt8 × Int) : (e2 x).length = 2 := rfl
end W
end Go.Proofs.YtkceenmlhfkkhaaGreatDoor
namespace Go.Proofs.YtkceenmlhfkkhaaGreatDoor
open K
namespace VR
abbrev Str := List UInt8
structure Var where
  name : Str
  value : Str
  set : Bool
  exp : Bool
  ro : Bool
def cells (v : Var) : List Value := [.string ⟨v.name.toArray⟩, .string ⟨v.value.toArray⟩, .bool v.set, .bool v.exp, .bool v.ro]
theorem cells_len (v : Var) : (cells v).length = 5 := rfl
/-- The place of the first element that is wanted, counted from k on; -1 if there is none. -/
def ix {α : Type} (p : α → Bool) : List α → Nat → Int
  | [], _ => -1
  | x :: l, k => if p x = true then (k : Int) else ix p l (k + 1)
theorem ix_drop {α : Type} (p : α → Bool) {l : List α} {k : Nat} {x : α} (h : l[k]? = some x) : ix p (l.drop k) k = if p x = true then (k : Int) else ix p (l.drop (k + 1)) (k + 1) := by
  obtain ⟨hk, rfl⟩ := List.getElem?_eq_some_iff.1 h
  rw [List.drop_eq_getElem_cons hk, ix]
theorem ix_end {α : Type} (p : α → Bool) {l : List α} {k : Nat} (h : ¬ k < l.length) : ix p (l.drop k) k = -1 := by rw [List.drop_eq_nil_of_le (by omega)]; rfl
theorem ix_le {α : Type} (p : α → Bool) : ∀ (l : List α) (k : Nat), -1 ≤ ix p l k ∧ ix p l k < k + l.length
  | [], k => by rw [ix]; simp; omega
  | x :: l, k => by
    rw [ix]
    have := ix_le p l (k + 1)
    split <;> simp <;> omega
/-- What splice makes. -/
def splice {α : Type} (l : List α) (i n : Nat) (vs : List α) : List α := l.take i ++ vs ++ l.drop (i + n)
end VR
end Go.Proofs.YtkceenmlhfkkhaaGreatDoor
namespace Go.Proofs.YtkceenmlhfkkhaaGreatDoor
open Go.RowKit K
theorem P.bl_lt (a b : List UInt8) : Op.bytesLess a b = decide (a < b) := Go.Proofs.bytesLess_eq a b
theorem gtr_lists (t : TypeId) (a b : List UInt8) : binOp .gtr t (.string ⟨a.toArray⟩) (.string ⟨b.toArray⟩) = pure (.bool (decide (b < a))) := by
  rw [binOp_string_gtr, Lib.toList_data, Lib.toList_data, P.bl_lt]
  congr 2
  by_cases h : a < b
  · have : ¬ b < a := fun h' => List.lt_irrefl a (List.lt_trans h h')
    simp [h, this]
  · by_cases h2 : a = b
    · subst h2; simp
    · have : b < a := by
        rcases Classical.em (b < a) with h3 | h3
        · exact h3
        · exact absurd (List.le_antisymm h3 h) h2
      simp [h, h2, this]
namespace W
/-- The variables of a slice. -/
abbrev VV (w : World) (v : Value) (l : List VR.Var) : Prop := RV 5 VR.cells w v l
def aggV (x : VR.Var) : Value := .agg #[.string ⟨x.name.toArray⟩, .string ⟨x.value.toArray⟩, .bool x.set, .bool x.exp, .bool x.ro]
theorem VV.get {w : World} {A : Option Addr} {n cap : Nat} {l : List VR.Var} (h : VV w (.slice A n cap) l) {i : Nat} {x : VR.Var} (hi : l[i]? = some x) :
    ∃ b off, A = some ⟨b, off, none⟩ ∧ b < w.heap.size ∧ w.cell? ⟨b, off + i * 5, none⟩ = some (.string ⟨x.name.toArray⟩) ∧ w.cell? ⟨b, off + i * 5 + 1, none⟩ = some (.string ⟨x.value.toArray⟩) ∧ w.cell? ⟨b, off + i * 5 + 2, none⟩ = some (.bool x.set) ∧ w.cell? ⟨b, off + i * 5 + 3, none⟩ = some (.bool x.exp) ∧ w.cell? ⟨b, off + i * 5 + 4, none⟩ = some (.bool x.ro) := by
  obtain ⟨b, off, h1, h2, h3⟩ := RV.get h hi
  exact ⟨b, off, h1, h2, h3 0 _ rfl, h3 1 _ rfl, h3 2 _ rfl, h3 3 _ rfl, h3 4 _ rfl⟩
theorem find_get1 (x : VR.Var) (nm : List UInt8) (b : Nat) (w : World) (hb : w.cell? ⟨b, 0, none⟩ = some (.string ⟨nm.toArray⟩)) :
    Calls Tryz.prog 53 #[aggV x, .pointer (some ⟨b, 0, none⟩)] w fun e w' => e = .returned (.bool (x.name == nm)) ∧ Below w.heap.size w w' := by
  have hlt := lt_cell hb
  skip
  unfold aggV
  go_enter Tryz.func53, Tryz.ntmps53
  go_wp2
  go_ret
  exact ⟨rfl, balloc _ _⟩
set_option maxHeartbeats 1000000 in
theorem find_get (l : List VR.Var) (nm : List UInt8) (b : Nat) (v : Value) (w : World) (hv : VV w v l) (hl : l.length ≤ 100000) (hb : w.cell? ⟨b, 0, none⟩ = some (.string ⟨nm.toArray⟩)) :
    Calls Tryz.prog 28 #[v, .func (Fn.func 53) #[] #[.pointer (some ⟨b, 0, none⟩)]] w fun e w' => e = .returned (.int .i64 (VR.ix (fun x => x.name == nm) l 0)) ∧ Below w.heap.size w w' := by
  obtain ⟨A, cap, rfl, -⟩ := hv.slice
  obtain ⟨R, hR⟩ : ∃ R, VR.ix (fun x => x.name == nm) (l.drop 0) 0 = R := ⟨_, rfl⟩
  rw [show VR.ix (fun x => x.name == nm) l 0 = R from hR]
  have HR := Lib.hid hR
  have HV := Lib.hid hv
  have HB := Lib.hid hb
  have HLB := Lib.hid (lt_cell hb)
  clear hR hv hb
  go_enter Tryz.func28, Tryz.ntmps28
  go_wp2
  go_loopw [9] (fun i wr => ∃ k : Nat, k ≤ l.length ∧ i = .int .i64 k ∧ Hid (VR.ix (fun x => x.name == nm) (l.drop k) k = R) ∧ Hid (Below w.heap.size w wr)) (fun i _ => l.length - (intOf i).toNat)
  case atStart => exact ⟨0, Nat.zero_le _, rfl, HR, Lib.hid (Below.refl _ _)⟩
  case round =>
    obtain ⟨k, hk, rfl, HN, HW⟩ := hrel
    by_cases hlt : k < l.length
    · obtain ⟨x, hx⟩ : ∃ x, l[k]? = some x := ⟨_, List.getElem?_eq_getElem hlt⟩
      obtain ⟨bb, off, rfl, hbl, g0, g1, g2, g3, g4⟩ := VV.get (HV.out.below HW.out) hx
      have HD := Lib.hid (VR.ix_drop (fun x => x.name == nm) hx)
      clear hx
      obtain ⟨X, hX⟩ : ∃ X, X = wr.alloc (.cells #[.string ⟨x.name.toArray⟩, .string ⟨x.value.toArray⟩, .bool x.set, .bool x.exp, .bool x.ro] 44) := ⟨_, rfl⟩
      have HX := Lib.hid hX
      have HBX := Lib.hid (show Below wr.heap.size wr X by rw [hX]; exact balloc _ _)
      have HC := Lib.hid (find_get1 x nm b X ((HBX.out.cell (p := ⟨b, 0, none⟩) (Nat.lt_of_lt_of_le HLB.out HW.out.size)).trans ((HW.out.cell (p := ⟨b, 0, none⟩) HLB.out).trans HB.out)))
      unfold aggV at HC
      clear hX
      go_wp2_with fail
      rw [← HX.out]
      refine HC.out.mono ?_
      rintro e Y ⟨rfl, hY⟩
      have HY := Lib.hid ((HW.out.trans (HBX.out.mono HW.out.size)).trans (hY.mono (Nat.le_trans HW.out.size HBX.out.size)))
      clear hY
      cases hp : (x.name == nm : Bool) with
      | true =>
        have HF := Lib.hid (show (k : Int) = R by rw [← HN.out, HD.out]; exact (if_pos hp).symm)
        go_wp2
        go_ret
        exact ⟨ret_int HF.out, HY.out⟩
      | false =>
        have HF := Lib.hid (show VR.ix (fun x => x.name == nm) (l.drop (k + 1)) (k + 1) = R by rw [← HN.out, HD.out]; exact (if_neg (by rw [hp]; decide)).symm)
        clear hp
        go_wp2
        go_roundw
        case rel => exact ⟨k + 1, hlt, by go_num, HF, HY⟩
        case measure => simp [intOf]; omega
    · have HF := Lib.hid (show (-1 : Int) = R by rw [← HN.out, VR.ix_end _ hlt])
      go_wp2
      go_ret
      exact ⟨ret_int HF.out, HW.out⟩
theorem find_old1 (x : VR.Var) (nm : List UInt8) (b : Nat) (w : World) (hb : w.cell? ⟨b, 0, none⟩ = some (.string ⟨nm.toArray⟩)) :
    Calls Tryz.prog 29 #[aggV x, .pointer (some ⟨b, 0, none⟩)] w fun e w' => e = .returned (.bool (x.name == nm)) ∧ Below w.heap.size w w' := by
  have hlt := lt_cell hb
  skip
  unfold aggV
  go_enter Tryz.func29, Tryz.ntmps29
  go_wp2
  go_ret
  exact ⟨rfl, balloc _ _⟩
set_option maxHeartbeats 1000000 in
theorem find_old (l : List VR.Var) (nm : List UInt8) (b : Nat) (v : Value) (w : World) (hv : VV w v l) (hl : l.length ≤ 100000) (hb : w.cell? ⟨b, 0, none⟩ = some (.string ⟨nm.toArray⟩)) :
    Calls Tryz.prog 28 #[v, .func (Fn.func 29) #[] #[.pointer (some ⟨b, 0, none⟩)]] w fun e w' => e = .returned (.int .i64 (VR.ix (fun x => x.name == nm) l 0)) ∧ Below w.heap.size w w' := by
  obtain ⟨A, cap, rfl, -⟩ := hv.slice
  obtain ⟨R, hR⟩ : ∃ R, VR.ix (fun x => x.name == nm) (l.drop 0) 0 = R := ⟨_, rfl⟩
  rw [show VR.ix (fun x => x.name == nm) l 0 = R from hR]
  have HR := Lib.hid hR
  have HV := Lib.hid hv
  have HB := Lib.hid hb
  have HLB := Lib.hid (lt_cell hb)
  clear hR hv hb
  go_enter Tryz.func28, Tryz.ntmps28
  go_wp2
  go_loopw [9] (fun i wr => ∃ k : Nat, k ≤ l.length ∧ i = .int .i64 k ∧ Hid (VR.ix (fun x => x.name == nm) (l.drop k) k = R) ∧ Hid (Below w.heap.size w wr)) (fun i _ => l.length - (intOf i).toNat)
  case atStart => exact ⟨0, Nat.zero_le _, rfl, HR, Lib.hid (Below.refl _ _)⟩
  case round =>
    obtain ⟨k, hk, rfl, HN, HW⟩ := hrel
    by_cases hlt : k < l.length
    · obtain ⟨x, hx⟩ : ∃ x, l[k]? = some x := ⟨_, List.getElem?_eq_getElem hlt⟩
      obtain ⟨bb, off, rfl, hbl, g0, g1, g2, g3, g4⟩ := VV.get (HV.out.below HW.out) hx
      have HD := Lib.hid (VR.ix_drop (fun x => x.name == nm) hx)
      clear hx
      obtain ⟨X, hX⟩ : ∃ X, X = wr.alloc (.cells #[.string ⟨x.name.toArray⟩, .string ⟨x.value.toArray⟩, .bool x.set, .bool x.exp, .bool x.ro] 44) := ⟨_, rfl⟩
      have HX := Lib.hid hX
      have HBX := Lib.hid (show Below wr.heap.size wr X by rw [hX]; exact balloc _ _)
      have HC := Lib.hid (find_old1 x nm b X ((HBX.out.cell (p := ⟨b, 0, none⟩) (Nat.lt_of_lt_of_le HLB.out HW.out.size)).trans ((HW.out.cell (p := ⟨b, 0, none⟩) HLB.out).trans HB.out)))
      unfold aggV at HC
      clear hX
      go_wp2_with fail
      rw [← HX.out]
      refine HC.out.mono ?_
      rintro e Y ⟨rfl, hY⟩
      have HY := Lib.hid ((HW.out.trans (HBX.out.mono HW.out.size)).trans (hY.mono (Nat.le_trans HW.out.size HBX.out.size)))
      clear hY
      cases hp : (x.name == nm : Bool) with
      | true =>
        have HF := Lib.hid (show (k : Int) = R by rw [← HN.out, HD.out]; exact (if_pos hp).symm)
        go_wp2
        go_ret
        exact ⟨ret_int HF.out, HY.out⟩
      | false =>
        have HF := Lib.hid (show VR.ix (fun x => x.name == nm) (l.drop (k + 1)) (k + 1) = R by rw [← HN.out, HD.out]; exact (if_neg (by rw [hp]; decide)).symm)
        clear hp
        go_wp2
        go_roundw
        case rel => exact ⟨k + 1, hlt, by go_num, HF, HY⟩
        case measure => simp [intOf]; omega
    · have HF := Lib.hid (show (-1 : Int) = R by rw [← HN.out, VR.ix_end _ hlt])
      go_wp2
      go_ret
      exact ⟨ret_int HF.out, HW.out⟩
theorem find_more1 (x : VR.Var) (nm : List UInt8) (b : Nat) (w : World) (hb : w.cell? ⟨b, 0, none⟩ = some (.string ⟨nm.toArray⟩)) :
    Calls Tryz.prog 30 #[aggV x, .pointer (some ⟨b, 0, none⟩)] w fun e w' => e = .returned (.bool (decide (nm < x.name))) ∧ Below w.heap.size w w' := by
  have hlt := lt_cell hb
  have hg := fun t => gtr_lists t x.name nm
  unfold aggV
  go_enter Tryz.func30, Tryz.ntmps30
  go_wp2
  go_ret
  exact ⟨rfl, balloc _ _⟩
set_option maxHeartbeats 1000000 in
theorem find_more (l : List VR.Var) (nm : List UInt8) (b : Nat) (v : Value) (w : World) (hv : VV w v l) (hl : l.length ≤ 100000) (hb : w.cell? ⟨b, 0, none⟩ = some (.string ⟨nm.toArray⟩)) :
    Calls Tryz.prog 28 #[v, .func (Fn.func 30) #[] #[.pointer (some ⟨b, 0, none⟩)]] w fun e w' => e = .returned (.int .i64 (VR.ix (fun x => decide (nm < x.name)) l 0)) ∧ Below w.heap.size w w' := by
  obtain ⟨A, cap, rfl, -⟩ := hv.slice
  obtain ⟨R, hR⟩ : ∃ R, VR.ix (fun x => decide (nm < x.name)) (l.drop 0) 0 = R := ⟨_, rfl⟩
  rw [show VR.ix (fun x => decide (nm < x.name)) l 0 = R from hR]
  have HR := Lib.hid hR
  have HV := Lib.hid hv
  have HB := Lib.hid hb
  have HLB := Lib.hid (lt_cell hb)
  clear hR hv hb
  go_enter Tryz.func28, Tryz.ntmps28
  go_wp2
  go_loopw [9] (fun i wr => ∃ k : Nat, k ≤ l.length ∧ i = .int .i64 k ∧ Hid (VR.ix (fun x => decide (nm < x.name)) (l.drop k) k = R) ∧ Hid (Below w.heap.size w wr)) (fun i _ => l.length - (intOf i).toNat)
  case atStart => exact ⟨0, Nat.zero_le _, rfl, HR, Lib.hid (Below.refl _ _)⟩
  case round =>
    obtain ⟨k, hk, rfl, HN, HW⟩ := hrel
    by_cases hlt : k < l.length
    · obtain ⟨x, hx⟩ : ∃ x, l[k]? = some x := ⟨_, List.getElem?_eq_getElem hlt⟩
      obtain ⟨bb, off, rfl, hbl, g0, g1, g2, g3, g4⟩ := VV.get (HV.out.below HW.out) hx
      have HD := Lib.hid (VR.ix_drop (fun x => decide (nm < x.name)) hx)
      clear hx
      obtain ⟨X, hX⟩ : ∃ X, X = wr.alloc (.cells #[.string ⟨x.name.toArray⟩, .string ⟨x.value.toArray⟩, .bool x.set, .bool x.exp, .bool x.ro] 44) := ⟨_, rfl⟩
      have HX := Lib.hid hX
      have HBX := Lib.hid (show Below wr.heap.size wr X by rw [hX]; exact balloc _ _)
      have HC := Lib.hid (find_more1 x nm b X ((HBX.out.cell (p := ⟨b, 0, none⟩) (Nat.lt_of_lt_of_le HLB.out HW.out.size)).trans ((HW.out.cell (p := ⟨b, 0, none⟩) HLB.out).trans HB.out)))
      unfold aggV at HC
      clear hX
      go_wp2_with fail
      rw [← HX.out]
      refine HC.out.mono ?_
      rintro e Y ⟨rfl, hY⟩
      have HY := Lib.hid ((HW.out.trans (HBX.out.mono HW.out.size)).trans (hY.mono (Nat.le_trans HW.out.size HBX.out.size)))
      clear hY
      cases hp : (decide (nm < x.name) : Bool) with
      | true =>
        have HF := Lib.hid (show (k : Int) = R by rw [← HN.out, HD.out]; exact (if_pos hp).symm)
        go_wp2
        go_ret
        exact ⟨ret_int HF.out, HY.out⟩
      | false =>
        have HF := Lib.hid (show VR.ix (fun x => decide (nm < x.name)) (l.drop (k + 1)) (k + 1) = R by rw [← HN.out, HD.out]; exact (if_neg (by rw [hp]; decide)).symm)
        clear hp
        go_wp2
        go_roundw
        case rel => exact ⟨k + 1, hlt, by go_num, HF, HY⟩
        case measure => simp [intOf]; omega
    · have HF := Lib.hid (show (-1 : Int) = R by rw [← HN.out, VR.ix_end _ hlt])
      go_wp2
      go_ret
      exact ⟨ret_int HF.out, HW.out⟩
end W
end Go.Proofs.YtkceenmlhfkkhaaGreatDoor
namespace Go.Proofs.YtkceenmlhfkkhaaGreatDoor
open Go.RowKit K
namespace VR
theorem ix_find {α : Type} (p : α → Bool) : ∀ (l : List α) (k : Nat), (ix p l k = -1 ∧ l.find? p = none) ∨ ∃ i x, ix p l k = ((k + i : Nat) : Int) ∧ l[i]? = some x ∧ l.find? p = some x ∧ i < l.length
  | [], k => .inl ⟨rfl, rfl⟩
  | x :: l, k => by
    rw [ix]
    by_cases h : p x = true
    · exact .inr ⟨0, x, by rw [if_pos h]; rfl, rfl, by rw [List.find?_cons_of_pos h], by simp⟩
    · rw [if_neg h]
      rcases ix_find p l (k + 1) with ⟨h1, h2⟩ | ⟨i, y, h1, h2, h3, h4⟩
      · exact .inl ⟨h1, by rw [List.find?_cons_of_neg h]; exact h2⟩
      · exact .inr ⟨i + 1, y, by rw [h1]; congr 1; omega, by rw [List.getElem?_cons_succ]; exact h2, by rw [List.find?_cons_of_neg h]; exact h3, by simp; omega⟩
def get (l : List Var) (nm : Str) : Option Var := l.find? (fun x => x.name == nm)
def zero : Var := ⟨[], [], false, false, false⟩
/-- Where a variable is or belongs, and whether it is there. -/
def place (l : List Var) (nm : Str) : Nat × Bool :=
  if 0 ≤ ix (fun x => x.name == nm) l 0 then ((ix (fun x => x.name == nm) l 0).toNat, true)
  else if 0 ≤ ix (fun x => decide (nm < x.name)) l 0 then ((ix (fun x => decide (nm < x.name)) l 0).toNat, false)
  else (l.length, false)
theorem place_le (l : List Var) (nm : Str) : (place l nm).1 ≤ l.length ∧ ((place l nm).2 = true → (place l nm).1 < l.length) := by
  unfold place
  have h1 := ix_le (fun x : Var => x.name == nm) l 0
  have h2 := ix_le (fun x : Var => decide (nm < x.name)) l 0
  split
  · refine ⟨by dsimp only; omega, fun _ => by dsimp only; omega⟩
  · split
    · refine ⟨by dsimp only; omega, fun h => by cases h⟩
    · exact ⟨Nat.le_refl _, fun h => by cases h⟩
end VR
namespace W
set_option maxRecDepth 100000
theorem vblk {v : World} {b : Nat} {a0 a1 a2 a3 a4 : Value} {t : TypeId} (h : v.heap[b]? = some (.cells #[a0, a1, a2, a3, a4] t (0, 0))) :
    v.cell? ⟨b, 0, none⟩ = some a0 ∧ v.cell? ⟨b, 1, none⟩ = some a1 ∧ v.cell? ⟨b, 2, none⟩ = some a2 ∧ v.cell? ⟨b, 3, none⟩ = some a3 ∧ v.cell? ⟨b, 4, none⟩ = some a4 ∧ v.frozen? ⟨b, 0, none⟩ = false ∧ v.frozen? ⟨b, 1, none⟩ = false ∧ v.frozen? ⟨b, 2, none⟩ = false ∧ v.frozen? ⟨b, 3, none⟩ = false ∧ v.frozen? ⟨b, 4, none⟩ = false :=
  ⟨Lib.cell_of_heap h 0, Lib.cell_of_heap h 1, Lib.cell_of_heap h 2, Lib.cell_of_heap h 3, Lib.cell_of_heap h 4, Lib.frozen_of_heap h 0, Lib.frozen_of_heap h 1, Lib.frozen_of_heap h 2, Lib.frozen_of_heap h 3, Lib.frozen_of_heap h 4⟩
theorem below5s {B : Nat} {w v : World} (h : Below B w v) (b : Nat) (hb : B ≤ b) (v0 v1 v2 v3 v4 : Value) : Below B w (((((v.setCell ⟨b, 0, none⟩ v0).setCell ⟨b, 1, none⟩ v1).setCell ⟨b, 2, none⟩ v2).setCell ⟨b, 3, none⟩ v3).setCell ⟨b, 4, none⟩ v4) :=
  ((((h.setCell hb _).setCell hb _).setCell hb _).setCell hb _).setCell hb _
/-- What Get gives. -/
def GetOut (w : World) (o : Option VR.Var) (e : Ending) (w' : World) : Prop := e = .returned (.tuple #[aggV (o.getD VR.zero), .bool o.isSome]) ∧ Below w.heap.size w w'
set_option maxHeartbeats 2000000 in
theorem Get_any (l : List VR.Var) (nm : List UInt8) (v : Value) (w : World) (hv : VV w v l) (hl : l.length ≤ 100000) :
    Calls Tryz.prog 37 #[v, .string ⟨nm.toArray⟩] w (GetOut w (VR.get l nm)) := by
  obtain ⟨A, cap, rfl, -⟩ := hv.slice
  obtain ⟨V, hV⟩ : ∃ V, V = (w.alloc (.cells #[.string ⟨nm.toArray⟩] 9)).alloc (.cells #[.string ⟨#[]⟩, .string ⟨#[]⟩, .bool false, .bool false, .bool false] 44) := ⟨_, rfl⟩
  have HBV := Lib.hid (show Below w.heap.size w V by rw [hV]; exact btr (balloc _ _) (balloc _ _))
  have hb : V.cell? ⟨w.heap.size, 0, none⟩ = some (.string ⟨nm.toArray⟩) := by
    rw [hV]
    exact ((balloc (w.alloc _) _).cell (p := ⟨w.heap.size, 0, none⟩) (by simp)).trans (by simp)
  have hz : V.heap[w.heap.size + 1]? = some (.cells #[.string ⟨#[]⟩, .string ⟨#[]⟩, .bool false, .bool false, .bool false] 44 (0, 0)) := by
    rw [hV]; exact al_new' _ _ _ (by simp)
  have HZ := Lib.hid hz
  have HLT := Lib.hid (show w.heap.size + 1 < V.heap.size by rw [hV]; simp)
  have HV := Lib.hid hV
  have HF := Lib.hid (find_get l nm w.heap.size _ V (hv.below HBV.out) hl hb)
  have HVV := Lib.hid hv
  rcases VR.ix_find (fun x => x.name == nm) l 0 with ⟨h1, h2⟩ | ⟨i, x, h1, h2, h3, h4⟩
  · have HO := Lib.hid (show VR.get l nm = none from h2)
    rw [h1] at HF
    clear hV hv hb hz h1 h2
    go_enter Tryz.func37, Tryz.ntmps37
    go_upto_region 1 with (fail)
    rw [← HV.out]
    go_wp2_with fail
    refine HF.out.mono ?_
    rintro e Y ⟨rfl, hY⟩
    have HY := Lib.hid hY
    obtain ⟨c0, c1, c2, c3, c4, f0, f1, f2, f3, f4⟩ := vblk ((hY.block _ HLT.out).trans HZ.out)
    have hs := HLT.out
    have hsy := hY.size
    clear hY
    go_wp2
    exact bodyPost_ret (v := .tuple #[aggV VR.zero, .bool false]) (by simp [results, Tryz.results37, go_sem, c0, c1, c2, c3, c4, aggV, VR.zero]) rfl ⟨by rw [HO.out]; rfl, below5s (HBV.out.trans (HY.out.mono HBV.out.size)) _ (by omega) _ _ _ _ _⟩
  · have HO := Lib.hid (show VR.get l nm = some x from h3)
    rw [h1, Nat.zero_add] at HF
    have HX := Lib.hid h2
    clear hV hv hb hz h1 h2 h3
    go_enter Tryz.func37, Tryz.ntmps37
    go_upto_region 1 with (fail)
    rw [← HV.out]
    go_wp2_with fail
    refine HF.out.mono ?_
    rintro e Y ⟨rfl, hY⟩
    have HY := Lib.hid hY
    obtain ⟨c0, c1, c2, c3, c4, f0, f1, f2, f3, f4⟩ := vblk ((hY.block _ HLT.out).trans HZ.out)
    have hs := HLT.out
    have hsy := hY.size
    clear hY
    have HBY := Lib.hid (HBV.out.trans (HY.out.mono HBV.out.size))
    obtain ⟨b, off, rfl, hbl, g0, g1, g2, g3, g4⟩ := VV.get HVV.out HX.out
    have hne : ¬ b = w.heap.size + 1 := by omega
    have hby : b < Y.heap.size := by omega
    obtain ⟨g0, g1, g2, g3, g4⟩ := (⟨(HBY.out.cell (p := ⟨b, off + i * 5, none⟩) hbl).trans g0, (HBY.out.cell (p := ⟨b, off + i * 5 + 1, none⟩) hbl).trans g1, (HBY.out.cell (p := ⟨b, off + i * 5 + 2, none⟩) hbl).trans g2, (HBY.out.cell (p := ⟨b, off + i * 5 + 3, none⟩) hbl).trans g3, (HBY.out.cell (p := ⟨b, off + i * 5 + 4, none⟩) hbl).trans g4⟩ : Y.cell? ⟨b, off + i * 5, none⟩ = some (.string ⟨x.name.toArray⟩) ∧ Y.cell? ⟨b, off + i * 5 + 1, none⟩ = some (.string ⟨x.value.toArray⟩) ∧ Y.cell? ⟨b, off + i * 5 + 2, none⟩ = some (.bool x.set) ∧ Y.cell? ⟨b, off + i * 5 + 3, none⟩ = some (.bool x.exp) ∧ Y.cell? ⟨b, off + i * 5 + 4, none⟩ = some (.bool x.ro))
    go_wp2
    exact bodyPost_ret (v := .tuple #[aggV x, .bool true]) (by simp [results, Tryz.results37, go_sem, c0, c1, c2, c3, c4, aggV]) rfl ⟨by rw [HO.out]; rfl, below5s HBY.out _ (by omega) _ _ _ _ _⟩
end W
end Go.Proofs.YtkceenmlhfkkhaaGreatDoor
namespace Go.Proofs.YtkceenmlhfkkhaaGreatDoor
open Go.RowKit K
namespace W
set_option maxRecDepth 100000
set_option maxHeartbeats 2000000 in
theorem place_any (l : List VR.Var) (nm : List UInt8) (v : Value) (w : World) (hv : VV w v l) (hl : l.length ≤ 100000) :
    Calls Tryz.prog 17 #[v, .string ⟨nm.toArray⟩] w fun e w' => e = .returned (.tuple #[.int .i64 (VR.place l nm).1, .bool (VR.place l nm).2]) ∧ Below w.heap.size w w' := by
  obtain ⟨A, cap, rfl, -⟩ := hv.slice
  obtain ⟨V, hV⟩ : ∃ V, V = w.alloc (.cells #[.string ⟨nm.toArray⟩] 9) := ⟨_, rfl⟩
  have HBV := Lib.hid (show Below w.heap.size w V by rw [hV]; exact balloc _ _)
  have hb : V.cell? ⟨w.heap.size, 0, none⟩ = some (.string ⟨nm.toArray⟩) := by rw [hV]; simp
  have HLT := Lib.hid (lt_cell hb)
  have HV := Lib.hid hV
  have HF := Lib.hid (find_old l nm w.heap.size _ V (hv.below HBV.out) hl hb)
  have HF2 := Lib.hid (fun Y (hY : Below V.heap.size V Y) => find_more l nm w.heap.size _ Y ((hv.below HBV.out).below hY) hl ((hY.cell (p := ⟨w.heap.size, 0, none⟩) (lt_cell hb)).trans hb))
  have q1 := VR.ix_le (fun x : VR.Var => x.name == nm) l 0
  have q2 := VR.ix_le (fun x : VR.Var => decide (nm < x.name)) l 0
  obtain ⟨R, hR⟩ : ∃ R, VR.place l nm = R := ⟨_, rfl⟩
  rw [hR]
  unfold VR.place at hR
  have HR := Lib.hid hR
  generalize VR.ix (fun x : VR.Var => x.name == nm) l 0 = i1 at *
  generalize VR.ix (fun x : VR.Var => decide (nm < x.name)) l 0 = i2 at *
  clear hV hv hb hR
  by_cases h1 : 0 ≤ i1
  · have HQ := Lib.hid (show R = (i1.toNat, true) by rw [← HR.out, if_pos h1])
    obtain ⟨k, rfl⟩ := Int.eq_ofNat_of_zero_le h1
    go_enter Tryz.func17, Tryz.ntmps17
    go_upto_region 1 with (fail)
    rw [← HV.out]
    go_wp2_with fail
    refine HF.out.mono ?_
    rintro e Y ⟨rfl, hY⟩
    have HY := Lib.hid (HBV.out.trans (hY.mono HBV.out.size))
    clear hY
    go_wp2
    go_ret2
    exact ⟨by rw [HQ.out]; rfl, HY.out⟩
  · have HR2 := Lib.hid ((if_neg h1).symm.trans HR.out)
    have h1' : i1 < 0 := by omega
    clear h1 HR
    go_enter Tryz.func17, Tryz.ntmps17
    go_upto_region 1 with (fail)
    rw [← HV.out]
    go_wp2_with fail
    refine HF.out.mono ?_
    rintro e Y ⟨rfl, hY⟩
    have HY := Lib.hid (HBV.out.trans (hY.mono HBV.out.size))
    have HF3 := Lib.hid (HF2.out Y hY)
    clear hY
    go_wp2_with fail
    refine HF3.out.mono ?_
    rintro e Z ⟨rfl, hZ⟩
    have HZ := Lib.hid (HY.out.trans (hZ.mono HY.out.size))
    clear hZ
    by_cases h2 : 0 ≤ i2
    · have HQ := Lib.hid (show R = (i2.toNat, false) by rw [← HR2.out, if_pos h2])
      obtain ⟨k, rfl⟩ := Int.eq_ofNat_of_zero_le h2
      go_wp2
      go_ret2
      exact ⟨by rw [HQ.out]; rfl, HZ.out⟩
    · have HQ := Lib.hid (show R = (l.length, false) by rw [← HR2.out, if_neg h2])
      have h2' : i2 < 0 := by omega
      go_wp2
      go_ret2
      exact ⟨by rw [HQ.out]; rfl, HZ.out⟩
theorem infoVar : (Tryz.prog.info? 44).map (fun i => (i.zero, i.size, i.bytes)) = some (some (.agg #[.string ⟨#[]⟩, .string ⟨#[]⟩, .bool false, .bool false, .bool false]), 5, 40) := by kernel_rfl
theorem var_one : ∀ (l : List VR.Var), ∀ u ∈ l.flatMap VR.cells, u.oneCell' = true := by
  intro l u hu
  obtain ⟨x, _, hx⟩ := List.mem_flatMap.1 hu
  simp [VR.cells] at hx
  rcases hx with rfl | rfl | rfl | rfl | rfl <;> rfl
theorem own_made (w : World) (z : Array Value) (T : TypeId) (m c : Nat) (hc : c ≤ maxLen) : (w.alloc (.cells (madeCells z (c * m)) T)).ownsRow w.heap.size T m (.slice (some ⟨w.heap.size, 0, none⟩) 0 c) 0 [] :=
  ⟨by simp, .inr ⟨w.heap.size, c, _, rfl, Nat.le_refl _, al_new w _, Nat.zero_le _, hc, by simp [size_madeCells], by simp⟩⟩
theorem make_var (n : Nat) (hn : n ≤ 100000) (W : World) : (Instr.makeSlice 23 (.int .i64 0) (.int .i64 ((n : Int) + 1))).run Tryz.prog W = .ok (.slice (some ⟨W.heap.size, 0, none⟩) 0 (n + 1)) (W.alloc (.cells (madeCells #[.string ⟨#[]⟩, .string ⟨#[]⟩, .bool false, .bool false, .bool false] ((n + 1) * 5)) 44)) := by
  obtain ⟨i0, hi, hz0, hz1, hz2⟩ := info_parts infoVar
  have := run_make (P := Tryz.prog) W 23 44 i0 _ Tryz.underlying23 hi hz0 .i64 .i64 0 ((n : Int) + 1) (Int.le_refl _) (by omega) (by rw [hz2]; omega) (by omega)
  rw [this, hz1, show ((n : Int) + 1).toNat = n + 1 by omega]
  rfl
theorem made_var (n : Nat) (hn : n ≤ 100000) (w : World) : (w.alloc (.cells (madeCells #[.string ⟨#[]⟩, .string ⟨#[]⟩, .bool false, .bool false, .bool false] ((n + 1) * 5)) 44)).ownsRow w.heap.size 44 5 (.slice (some ⟨w.heap.size, 0, none⟩) 0 (n + 1)) 0 [] :=
  own_made w _ _ 5 _ (by unfold maxLen; omega)
set_option maxHeartbeats 4000000 in
theorem splice_any (l : List VR.Var) (i n : Nat) (q : Nat) (x : VR.Var) (v : Value) (w : World) (hv : VV w v l) (hl : l.length ≤ 100000) (hne : l ≠ []) (hin : i + n ≤ l.length) (hq : q < w.heap.size) (hx : RAt 5 VR.cells w q 0 [x]) :
    Calls Tryz.prog 18 #[v, .int .i64 i, .int .i64 n, .slice (some ⟨q, 0, none⟩) 1 1] w fun e w' => ∃ v', e = .returned v' ∧ OR 5 VR.cells 44 w.heap.size w' v' (VR.splice l i n [x]) ∧ Below w.heap.size w w' := by
  obtain ⟨i0, hi, hz0, hz1, hz2⟩ := info_parts infoVar
  obtain ⟨A, cap, rfl, hcap⟩ := hv.slice
  obtain ⟨-, b, off, rfl, hb, hr⟩ := hv.at_ hne
  have hpos : 0 < l.length := List.length_pos_iff.2 hne
  have HM := fun W => make_var l.length hl W
  obtain ⟨V, hV⟩ : ∃ V, V = w.alloc (.cells (madeCells #[.string ⟨#[]⟩, .string ⟨#[]⟩, .bool false, .bool false, .bool false] ((l.length + 1) * 5)) 44) := ⟨_, rfl⟩
  have HBV := Lib.hid (show Below w.heap.size w V by rw [hV]; exact balloc _ _)
  have HOV := Lib.hid (show V.ownsRow w.heap.size 44 5 (.slice (some ⟨w.heap.size, 0, none⟩) 0 (l.length + 1)) 0 [] by rw [hV]; exact made_var _ hl w)
  have HV := Lib.hid hV
  have HR := Lib.hid hr
  have HX := Lib.hid hx
  have HI := Lib.hid hin
  have k1 : ((i : Int) ≤ (l.length : Int)) = True := eq_true (by omega)
  have k2 : ((i : Int) + (n : Int) ≤ (l.length : Int)) = True := eq_true (by omega)
  have k3 : ((i : Int) ≤ (cap : Int)) = True := eq_true (by omega)
  have k4 : (0 ≤ (i : Int)) = True := eq_true (by omega)
  have k5 : (0 ≤ (i : Int) + (n : Int)) = True := eq_true (by omega)
  have k6 : ((i : Int) + (n : Int)).toNat = i + n := by omega
  have k7 : IntKind.i64.wrap ((i : Int) + (n : Int)) = (i : Int) + (n : Int) := by rw [IntKind.wrap_i64]; omega
  have k8 : (i : Int) + (n : Int) ≤ 100000 := by omega
  have k9 : 0 ≤ (i : Int) + (n : Int) := by omega
  clear hV hx hr hv hin
  go_enter Tryz.func18, Tryz.ntmps18
  go_upto_region 2 with (fail)
  rw [← HV.out]
  have hb1 : b < V.heap.size := Nat.lt_of_lt_of_le hb HBV.out.size
  go_wp2_with ((at_builtin; refine wpList_append_own_at _ rfl _ _ 23 rfl w.heap.size 44 i0 _ 5 40 Tryz.underlying23 hi hz0 hz1 hz2 rfl (by decide) _ 0 [] rfl HOV.out ⟨b, off, none⟩ i cap ((l.take i).flatMap VR.cells) rfl (by rw [flat_len VR.cells_len, List.length_take, Nat.min_eq_left (by have := HI.out; omega)]) (((HR.out.below HBV.out hb).take i).flat VR.cells_len) (var_one _) (by unfold maxLen; have := HI.out; omega) (by have := HI.out; omega) HBV.out.size ?_))
  intro v1 W1 ho1 hg1 _ _
  obtain ⟨A1, c1, rfl⟩ := row_val ho1
  have HB1 := Lib.hid (show Below w.heap.size w W1 from HBV.out.grown hg1 HBV.out.size (fun k hk => by simp [Value.ownBlock] at hk; omega))
  have HO1 := Lib.hid ho1
  clear ho1 hg1
  go_wp2_with (go_loud (at_builtin; refine wpList_append_own_at _ rfl _ _ 23 rfl w.heap.size 44 i0 _ 5 40 Tryz.underlying23 hi hz0 hz1 hz2 rfl (by decide) _ i _ rfl HO1.out ⟨q, 0, none⟩ 1 1 ([x].flatMap VR.cells) rfl rfl ((HX.out.below HB1.out hq).flat VR.cells_len) (var_one _) (by unfold maxLen; have := HI.out; omega) (by have := HI.out; omega) HB1.out.size ?_))
  intro v2 W2 ho2 hg2 _ _
  obtain ⟨A2, c2, rfl⟩ := row_val ho2
  have HB2 := Lib.hid (show Below w.heap.size w W2 from HB1.out.grown hg2 HB1.out.size (fun k hk => by
    obtain ⟨_, h | ⟨g, cap, cur, h1, h2, _⟩⟩ := HO1.out
    · rw [h.1] at hk; simp [Value.ownBlock] at hk
    · rw [h1] at hk; simp [Value.ownBlock] at hk; omega))
  have HO2 := Lib.hid ho2
  clear ho2 hg2
  have hb2 : b < W2.heap.size := Nat.lt_of_lt_of_le hb HB2.out.size
  have HFIN := Lib.hid (show ∀ (v' : Value) (W' : World), W'.ownsRow w.heap.size 44 5 v' (i + 1 + (l.length - (i + n))) ((l.take i).flatMap VR.cells ++ (VR.cells x ++ (l.drop (i + n)).flatMap VR.cells)) → OR 5 VR.cells 44 w.heap.size W' v' (VR.splice l i n [x]) from fun v' W' h => by
    unfold OR VR.splice
    rw [List.flatMap_append, List.flatMap_append, List.append_assoc (List.flatMap _ _), show [x].flatMap VR.cells = VR.cells x from List.append_nil _]
    have hl3 : (l.take i ++ [x] ++ l.drop (i + n)).length = i + 1 + (l.length - (i + n)) := by
      have := HI.out
      simp; omega
    rw [hl3]
    exact h)
  by_cases hcz : cap = i + n
  case pos =>
    have HD := Lib.hid (show l.drop (i + n) = [] from List.drop_eq_nil_of_le (by omega))
    have HE := Lib.hid (show l.length - (i + n) = 0 by omega)
    subst hcz
    go_wp2_with (at_builtin; refine wpList_append_own_at _ rfl _ _ 23 rfl w.heap.size 44 i0 _ 5 40 Tryz.underlying23 hi hz0 hz1 hz2 rfl (by decide) _ (i + 1) _ rfl HO2.out ⟨b, off, none⟩ 0 _ [] rfl rfl (by intro j u hj; simp at hj) (by intro u hu; cases hu) (by unfold maxLen; have := HI.out; omega) (by have := HI.out; omega) HB2.out.size ?_)
    intro v3 W3 ho3 hg3 _ _
    have HB3 := Lib.hid (show Below w.heap.size w W3 from HB2.out.grown hg3 HB2.out.size (fun k hk => by
      obtain ⟨_, h | ⟨g, cap, cur, h1, h2, _⟩⟩ := HO2.out
      · rw [h.1] at hk; simp [Value.ownBlock] at hk
      · rw [h1] at hk; simp [Value.ownBlock] at hk; omega))
    have HO3 := Lib.hid ho3
    clear ho3 hg3
    go_wp2
    go_ret
    exact ⟨v3, rfl, HFIN.out v3 _ (by rw [HD.out, HE.out]; simpa using HO3.out), HB3.out⟩
  case neg =>
    go_wp2_with (at_builtin; refine wpList_append_own_at _ rfl _ _ 23 rfl w.heap.size 44 i0 _ 5 40 Tryz.underlying23 hi hz0 hz1 hz2 rfl (by decide) _ (i + 1) _ rfl HO2.out ⟨b, off + (i + n) * 5, none⟩ (l.length - (i + n)) (cap - (i + n)) ((l.drop (i + n)).flatMap VR.cells) rfl (by rw [flat_len VR.cells_len, List.length_drop]) (((HR.out.below HB2.out hb).drop (i + n)).flat VR.cells_len) (var_one _) (by unfold maxLen; have := HI.out; omega) (by have := HI.out; omega) HB2.out.size ?_)
    intro v3 W3 ho3 hg3 _ _
    have HB3 := Lib.hid (show Below w.heap.size w W3 from HB2.out.grown hg3 HB2.out.size (fun k hk => by
      obtain ⟨_, h | ⟨g, cap, cur, h1, h2, _⟩⟩ := HO2.out
      · rw [h.1] at hk; simp [Value.ownBlock] at hk
      · rw [h1] at hk; simp [Value.ownBlock] at hk; omega))
    have HO3 := Lib.hid ho3
    clear ho3 hg3
    go_wp2
    go_ret
    exact ⟨v3, rfl, HFIN.out v3 _ HO3.out, HB3.out⟩
end W
end Go.Proofs.YtkceenmlhfkkhaaGreatDoor
namespace Go.Proofs.YtkceenmlhfkkhaaGreatDoor
open Go.RowKit K
namespace W

/-- The library's variable MaxLen holds some integer. -/
def Env (w : World) : Prop := ∃ m, w.cell? ⟨0, 0, none⟩ = some (.int .i64 m)
theorem letter_any (c : Int) (w : World) :
    Calls Tryz.prog 26 #[.int .i32 c] w fun e w' => e = .returned (.bool (P.lt c)) ∧ w = w' := by
  go_enter Tryz.func26, Tryz.ntmps26
  go_wp2
  all_goals go_ret
  all_goals exact ⟨ret_bool (by rw [Bool.eq_iff_iff]; simp [P.lt]; omega), rfl⟩
theorem digit_any (c : Int) (w : World) :
    Calls Tryz.prog 27 #[.int .i32 c] w fun e w' => e = .returned (.bool (P.dg c)) ∧ w = w' := by
  go_enter Tryz.func27, Tryz.ntmps27
  go_wp2
  all_goals go_ret
  all_goals exact ⟨ret_bool (by rw [Bool.eq_iff_iff]; simp [P.dg]; try omega), rfl⟩
theorem Name_any (l : List UInt8) (w : World) (hl : l.length ≤ 1000000000) :
    Calls Tryz.prog 16 #[.string ⟨l.toArray⟩] w fun e w' => e = .returned (.bool (P.nameB l)) ∧ Below w.heap.size w w' := by
  go_enter Tryz.func16, Tryz.ntmps16
  by_cases h0 : l.length < 1
  · go_wp2
    go_ret
    exact ⟨ret_bool (by have : l = [] := List.eq_nil_of_length_eq_zero (by omega)
                        subst this; rfl), Below.refl _ _⟩
  rcases Nat.lt_or_ge 32 l.length with h32 | h32
  · go_wp2
    go_ret
    exact ⟨ret_bool (by simp [P.nameB]; omega), Below.refl _ _⟩
  have hpos : 0 < l.length := by omega
  rw [P.nameFrom_zero l hpos h32]
  go_wp2
  go_loopw [] (fun wr => ∃ pos : Nat, pos ≤ l.length ∧ wr.heap[w.heap.size]? = some (.stringIter ⟨l.toArray⟩ pos) ∧ Below w.heap.size w wr ∧ P.nameFrom l 0 = P.nameFrom l pos) (fun wr => l.length - wr.iterPos w.heap.size)
  case atStart =>
    refine ⟨0, by omega, ?_, (Below.refl _ w).alloc (Nat.le_refl _) _, rfl⟩
    have := World.iter_heap w ⟨l.toArray⟩ 0
    simpa using this
  case round =>
    obtain ⟨pos, hk, hit, hbw, hno⟩ := hrel
    have HN := Lib.hid hno
    clear hno
    by_cases hlt : pos < l.length
    · obtain ⟨c, hc⟩ : ∃ c, bt l pos = c := ⟨_, rfl⟩
      have HC := Lib.hid hc
      by_cases ha : c < 128
      · have hnx := next_low (P := Tryz.prog) wr w.heap.size l pos hit hlt c hc ha
        clear hc
        have hit2 := Lib.hid (Lib.iterAt_heap wr w.heap.size ⟨l.toArray⟩ pos (pos + 1) hit)
        have hbw2 := Lib.hid (Lib.below_iterAt hbw (k := w.heap.size) (by omega) ⟨l.toArray⟩ (pos + 1))
        go_wp2_with (first | (go_at_call 26; refine (letter_any _ _).mono ?_; rintro e w' ⟨rfl, rfl⟩) | (go_at_call 27; refine (digit_any _ _).mono ?_; rintro e w' ⟨rfl, rfl⟩))
        all_goals first
          | (go_ret
             exact ⟨ret_bool (by go_light; rw [HN.out, P.nameFrom_stop hlt HC.out (by simp_all)]), hbw2.out⟩)
          | (go_roundw
             case rel => exact ⟨pos + 1, by omega, hit2.out, hbw2.out, by go_light; rw [HN.out, P.nameFrom_step hlt HC.out (by simp_all)]⟩
             case measure => simp only [World.iterPos, hit2.out, hit]; omega)
      · obtain ⟨r, d, hr, hr2, hd, hnx⟩ := next_high (P := Tryz.prog) wr w.heap.size l pos hit hlt (by omega)
        clear hc
        have hbw2 := Lib.hid (Lib.below_iterAt hbw (k := w.heap.size) (by omega) ⟨l.toArray⟩ (pos + d))
        have h1 := P.lt_high r (by omega)
        have h2 := P.dg_high r (by omega)
        have h3 : ((r : Int) == 95) = false := by simp; omega
        go_wp2_with (first | (go_at_call 26; refine (letter_any _ _).mono ?_; rintro e w' ⟨rfl, rfl⟩) | (go_at_call 27; refine (digit_any _ _).mono ?_; rintro e w' ⟨rfl, rfl⟩))
        go_ret
        exact ⟨ret_bool (by go_light; rw [HN.out, P.nameFrom_stop hlt HC.out (by rw [P.lt_high c (by omega), P.dg_high c (by omega)]; simp; omega)]), hbw2.out⟩
    · have hnx := next_end (P := Tryz.prog) wr w.heap.size l pos hit hlt
      go_wp2
      go_ret
      exact ⟨ret_bool (by rw [HN.out, P.nameFrom_end hpos hlt]), hbw⟩
/-- A number or nothing, as Go returns it. -/
def optInt (o : Option Int) : Ending := .returned (.tuple #[.int .i64 (o.getD 0), .bool o.isSome])
theorem optInt_none {o : Option Int} (h : o = none) : Ending.returned (.tuple #[.int .i64 0, .bool false]) = optInt o := by rw [h]; rfl
theorem optInt_some {o : Option Int} {n : Int} (h : o = some n) : Ending.returned (.tuple #[.int .i64 n, .bool true]) = optInt o := by rw [h]; rfl

theorem Digits_any (l : List UInt8) (w : World) (hl : l.length ≤ 1000000000) :
    Calls Tryz.prog 185 #[.string ⟨l.toArray⟩] w fun e w' => e = optInt (P.digitsI l) ∧ Below w.heap.size w w' := by
  by_cases h1 : l = [48]
  · subst h1
    go_enter Tryz.func185, Tryz.ntmps185
    go_wp2
    go_ret2
    exact ⟨rfl, Below.refl _ _⟩
  by_cases h0 : l = []
  · subst h0
    go_enter Tryz.func185, Tryz.ntmps185
    go_wp2
    go_ret2
    exact ⟨rfl, Below.refl _ _⟩
  have hpos : 0 < l.length := by cases l; simp at h0; simp
  have hne : l.isEmpty = false := by cases l; simp at h0; simp
  have h48 : (l == [48]) = false := by simpa using h1
  clear h1
  by_cases hz : (bt l 0 == 48) = true
  · have HG : Hid (P.digitsI l = none) := by show P.digitsI l = none; simp [P.digitsI, h48, hz]
    go_enter Tryz.func185, Tryz.ntmps185
    go_wp2
    go_ret2
    exact ⟨optInt_none HG.out, Below.refl _ _⟩
  have hz' : (bt l 0 == 48) = false := by simpa using hz
  clear hz
  have hG : P.digitsI l = P.dloop 0 l := by simp [P.digitsI, h48, hne, hz']
  rw [hG]
  clear hG
  obtain ⟨o, ho⟩ : ∃ o, P.dloop 0 l = o := ⟨_, rfl⟩
  rw [ho]
  have HO := Lib.hid ho
  clear ho
  go_enter Tryz.func185, Tryz.ntmps185
  go_wp2
  go_loopw [4] (fun n wr => ∃ (pos : Nat) (m : Int), pos ≤ l.length ∧ n = .int .i64 m ∧ 0 ≤ m ∧ m ≤ 2147483647 ∧ wr.heap[w.heap.size]? = some (.stringIter ⟨l.toArray⟩ pos) ∧ Below w.heap.size w wr ∧ o = P.dloop m (l.drop pos)) (fun _ wr => l.length - wr.iterPos w.heap.size)
  case atStart =>
    refine ⟨0, 0, by omega, rfl, by omega, by omega, ?_, (Below.refl _ w).alloc (Nat.le_refl _) _, HO.out.symm⟩
    have := World.iter_heap w ⟨l.toArray⟩ 0
    simpa using this
  case round =>
    obtain ⟨pos, m, hk, rfl, hm0, hm1, hit, hbw, hno⟩ := hrel
    have HN := Lib.hid hno
    clear hno
    by_cases hlt : pos < l.length
    · obtain ⟨x, hx, hb, _⟩ := drop_cons l pos hlt
      have HX := Lib.hid hx
      clear hx
      obtain ⟨c, hc⟩ : ∃ c, bt l pos = c := ⟨_, rfl⟩
      have HB : Hid (P.iv x = c) := by rw [← hc, hb]; rfl
      clear hb
      by_cases ha : c < 128
      · have hnx := next_low (P := Tryz.prog) wr w.heap.size l pos hit hlt c hc ha
        clear hc
        have hit2 := Lib.hid (Lib.iterAt_heap wr w.heap.size ⟨l.toArray⟩ pos (pos + 1) hit)
        have hbw2 := Lib.hid (Lib.below_iterAt hbw (k := w.heap.size) (by omega) ⟨l.toArray⟩ (pos + 1))
        by_cases hd : P.dg c = true
        · have hd2 := (P.dg_iff _).1 hd
          by_cases hm : 2147483647 < 10 * m + (c - 48)
          · go_wp2_with (go_at_call 27; refine (digit_any _ _).mono ?_; rintro e w' ⟨rfl, rfl⟩)
            go_ret2
            exact ⟨optInt_none (by rw [HN.out, HX.out, P.dloop_big HB.out hd hm]), hbw2.out⟩
          · go_wp2_with (go_at_call 27; refine (digit_any _ _).mono ?_; rintro e w' ⟨rfl, rfl⟩)
            go_roundw
            case rel => exact ⟨pos + 1, 10 * m + (c - 48), by omega, rfl, by omega, by omega, hit2.out, hbw2.out, by rw [HN.out, HX.out, P.dloop_yes HB.out hd (by omega)]⟩
            case measure => simp only [World.iterPos, hit2.out, hit]; omega
        · have hd' : P.dg c = false := by simpa using hd
          clear hd
          go_wp2_with (go_at_call 27; refine (digit_any _ _).mono ?_; rintro e w' ⟨rfl, rfl⟩)
          go_ret2
          exact ⟨optInt_none (by rw [HN.out, HX.out, P.dloop_no HB.out hd']), hbw2.out⟩
      · obtain ⟨r, d, hr, hr2, hd, hnx⟩ := next_high (P := Tryz.prog) wr w.heap.size l pos hit hlt (by omega)
        clear hc
        have hbw2 := Lib.hid (Lib.below_iterAt hbw (k := w.heap.size) (by omega) ⟨l.toArray⟩ (pos + d))
        have h2 := P.dg_high r (by omega)
        go_wp2_with (go_at_call 27; refine (digit_any _ _).mono ?_; rintro e w' ⟨rfl, rfl⟩)
        go_ret2
        exact ⟨optInt_none (by rw [HN.out, HX.out, P.dloop_no HB.out (P.dg_high c (by omega))]), hbw2.out⟩
    · have hnx := next_end (P := Tryz.prog) wr w.heap.size l pos hit hlt
      have HE : Hid (l.drop pos = []) := List.drop_eq_nil_of_le (by omega)
      go_wp2
      go_ret2
      exact ⟨optInt_some (by rw [HN.out, HE.out]; rfl), hbw⟩

end W
end Go.Proofs.YtkceenmlhfkkhaaGreatDoor
namespace Go.Proofs.YtkceenmlhfkkhaaGreatDoor
open Go.RowKit K
namespace VR
def setv (l : List Var) (nm val : Str) : List Var :=
  if (place l nm).2 = true then splice l (place l nm).1 1 [{ (l.getD (place l nm).1 zero) with value := val, set := true }]
  else splice l (place l nm).1 0 [⟨nm, val, true, false, false⟩]
end VR
namespace W
set_option maxRecDepth 100000
theorem OR.base {α : Type} {m : Nat} {enc : α → List Value} {T : TypeId} {B B' : Nat} {w : World} {v : Value} {l : List α} (h : OR m enc T B w v l) (hB : B' ≤ B) : OR m enc T B' w v l := by
  obtain ⟨h1, h2⟩ := h
  refine ⟨h1, ?_⟩
  rcases h2 with h2 | ⟨g, cap, cur, e1, e2, e3⟩
  · exact .inl h2
  · exact .inr ⟨g, cap, cur, e1, Nat.le_trans hB e2, e3⟩
theorem rat_one (w : World) (T : TypeId) (x : VR.Var) (q : Nat) (h : w.heap[q]? = some (.cells #[.string ⟨x.name.toArray⟩, .string ⟨x.value.toArray⟩, .bool x.set, .bool x.exp, .bool x.ro] T (0, 0))) : RAt 5 VR.cells w q 0 [x] := by
  obtain ⟨c0, c1, c2, c3, c4, _⟩ := vblk h
  intro i y hi j u hj
  match i, hi with
  | 0, hi =>
    simp at hi; subst hi
    rw [Nat.zero_mul, Nat.zero_add]
    match j, hj with
    | 0, hj => rw [c0]; exact hj
    | 1, hj => rw [c1]; exact hj
    | 2, hj => rw [c2]; exact hj
    | 3, hj => rw [c3]; exact hj
    | 4, hj => rw [c4]; exact hj
    | n + 5, hj => simp [VR.cells] at hj
  | n + 1, hi => simp at hi
/-- What Set leaves. -/
def SetOut (w : World) (l : List VR.Var) (e : Ending) (w' : World) : Prop := ∃ v', e = .returned (.tuple #[v', .int .i64 0]) ∧ OR 5 VR.cells 44 w.heap.size w' v' l ∧ Below w.heap.size w w'
set_option maxHeartbeats 4000000 in
theorem Set_ok (l : List VR.Var) (nm val : List UInt8) (v : Value) (w : World) (hv : VV w v l) (hl : l.length ≤ 100) (hne : l ≠ []) (hn : P.nameB nm = true) (hval : val.length ≤ 4096) (hro : ∀ x ∈ l, x.ro = false) (hnm : nm.length ≤ 1000) :
    Calls Tryz.prog 10 #[v, .string ⟨nm.toArray⟩, .string ⟨val.toArray⟩] w (SetOut w (VR.setv l nm val)) := by
  have HN := Lib.hid (Name_any nm w (by omega))
  rw [hn] at HN
  have HP := Lib.hid (fun Y (hY : Below w.heap.size w Y) => place_any l nm v Y (hv.below hY) (by omega))
  have hple := VR.place_le l nm
  obtain ⟨R, hR⟩ : ∃ R, VR.setv l nm val = R := ⟨_, rfl⟩
  rw [hR]
  unfold VR.setv at hR
  obtain ⟨⟨i, old⟩, hp⟩ : ∃ p, VR.place l nm = p := ⟨_, rfl⟩
  rw [hp] at HP hR hple
  dsimp only at HP hR hple
  have HVV := Lib.hid hv
  have hl1 : ((l.length : Int) ≤ 100) := by omega
  have hl2 : ((val.length : Int) ≤ 4096) := by omega
  obtain ⟨A, cap, rfl, -⟩ := hv.slice
  clear hv hn hp
  cases old with
  | true =>
    obtain ⟨hi1, hi2⟩ := hple
    have hi := hi2 rfl
    obtain ⟨x, hx⟩ : ∃ x, l[i]? = some x := ⟨_, List.getElem?_eq_getElem hi⟩
    have hxr := hro x (List.mem_of_getElem? hx)
    rw [if_pos rfl, List.getD_eq_getElem?_getD, hx, Option.getD_some] at hR
    have HR := Lib.hid (show VR.splice l i 1 [⟨x.name, val, true, x.exp, false⟩] = R by rw [← hxr]; exact hR)
    have HX := Lib.hid hx
    clear hR hi1 hi2 hro hx
    go_enter Tryz.func10, Tryz.ntmps10
    go_wp2_with fail
    refine HN.out.mono ?_
    rintro e1 Y ⟨rfl, hY⟩
    have HY := Lib.hid hY
    go_wp2_with fail
    refine (HP.out Y hY).mono ?_
    rintro e2 Z ⟨rfl, hZ⟩
    have HZ := Lib.hid (hY.trans (hZ.mono hY.size))
    clear hY hZ
    obtain ⟨b, off, rfl, hb, g0, g1, g2, g3, g4⟩ := VV.get (HVV.out.below HZ.out) HX.out
    rw [hxr] at g4
    have HS := Lib.hid (fun q X (hX : Below w.heap.size w X) hq hx => splice_any l i 1 q ⟨x.name, val, true, x.exp, false⟩ _ X (HVV.out.below hX) (by omega) hne (by omega) hq hx)
    have hz1 : b < Z.heap.size := hb
    have kz : ((i : Int) < (l.length : Int)) = True := eq_true (by omega)
    go_wp2_with fail
    refine (HS.out _ _ ?_ ?_ ?_).mono ?_
    · exact btr (btr HZ.out (balloc _ _)) (balloc _ _)
    · simp
    · refine rat_one _ _ _ _ (al_new' _ _ _ ?_)
      simp
    rintro e3 X ⟨v', rfl, ho, hX⟩
    have HO := Lib.hid ho
    have HX2 := Lib.hid hX
    clear ho hX
    go_wp2
    go_ret2
    exact ⟨v', rfl, by rw [← HR.out]; exact HO.out.base (Nat.le_trans HZ.out.size (by simp; omega)), (btr (btr HZ.out (balloc _ _)) (balloc _ _)).trans (HX2.out.mono (Nat.le_trans HZ.out.size (by simp; omega)))⟩
  | false =>
    obtain ⟨hi1, hi2⟩ := hple
    rw [if_neg (by decide)] at hR
    have HR := Lib.hid hR
    have HI := Lib.hid hi1
    clear hR hi2 hro hi1
    go_enter Tryz.func10, Tryz.ntmps10
    go_wp2_with fail
    refine HN.out.mono ?_
    rintro e1 Y ⟨rfl, hY⟩
    have HY := Lib.hid hY
    go_wp2_with fail
    refine (HP.out Y hY).mono ?_
    rintro e2 Z ⟨rfl, hZ⟩
    have HZ := Lib.hid (hY.trans (hZ.mono hY.size))
    clear hY hZ
    have HS := Lib.hid (fun q X (hX : Below w.heap.size w X) hq hx => splice_any l i 0 q ⟨nm, val, true, false, false⟩ _ X (HVV.out.below hX) (by omega) hne (by have := HI.out; omega) hq hx)
    go_wp2_with fail
    refine (HS.out _ _ ?_ ?_ ?_).mono ?_
    · exact btr HZ.out (balloc _ _)
    · simp
    · exact rat_one _ _ _ _ (al_new' _ _ _ rfl)
    rintro e3 X ⟨v', rfl, ho, hX⟩
    have HO := Lib.hid ho
    have HX2 := Lib.hid hX
    clear ho hX
    go_wp2
    go_ret2
    exact ⟨v', rfl, by rw [← HR.out]; exact HO.out.base (Nat.le_trans HZ.out.size (by simp)), (btr HZ.out (balloc _ _)).trans (HX2.out.mono (Nat.le_trans HZ.out.size (by simp)))⟩
end W
end Go.Proofs.YtkceenmlhfkkhaaGreatDoor
