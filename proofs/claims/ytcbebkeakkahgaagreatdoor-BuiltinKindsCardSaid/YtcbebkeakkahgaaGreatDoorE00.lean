/- General lemmas on memory (out of my texts on words and expansion). -/
import Derived.Test.YtcbebkeakkahgaaGreatDoorB
import Derived.Test.YtcbebkeakkahgaaGreatDoorChecked
import Derived.Deep.RegionLaw
import Derived.Deep.QuietTactic
import Derived.BigQuiet
import Derived.StillTailTactics
import Derived.IntWalk
import Derived.Lib.AppendIntMem
import Derived.Lib.FrozenHead2
import Derived.Lib.Builder
import Derived.Maps.AppendAt
import Derived.Laws.IdiomStrings
import Derived.Deep.Upon
import Derived.Deep.RegionHeldLaw
import Derived.Laws.Tables
namespace Go.Proofs.YtcbebkeakkahgaaGreatDoor
open Go.RowKit K
/-- A goal that several ways share. -/
structure Shared8 (G : Prop) : Prop where
  out : G
theorem merge8 {G T : Prop} (h : Shared8 G → T) (g : G) : T := h ⟨g⟩
namespace K
theorem step_append_own {P : Program} {ops : Array Oper} {o : Oper} {a : Act} {w : World} {K : Act → World → Prop} {Q : Exit → Act → World → Prop} {E : Prop}
    (hg : o.guard = none) (s x : Operand) (t : TypeId) (hop : o.op = Op.call { callee := Callee.builtin Builtin.append, args := #[s, x], argTypes := #[t, t] })
    (base : Nat) (e : TypeId) (i : TypeInfo) (z : Value) (size bytes : Nat) (ht : P.underlying t = some (.slice e)) (hi : P.info? e = some i) (hz : i.zero = some z)
    (hsize : i.size = size) (hby : i.bytes = bytes) (hzs : z.cells.size = size) (hsz : 0 < size)
    (v : Value) (n : Nat) (xs : List Value) (hs : a.eval s = v) (hown : w.ownsRow base e size v n xs)
    (ad : Addr) (m c : Nat) (news : List Value) (hx : a.eval x = .slice (some ad) m c) (hl : news.length = m * size) (hnews : ∀ j u, news[j]? = some u → w.cell? (ad.add j) = some u) (h1 : ∀ u ∈ news, u.oneCell' = true)
    (h63 : n + m ≤ maxLen) (hbytes : (n + m) * bytes ≤ 140737488355328) (hbase : base ≤ w.heap.size)
    (hK : ∀ v' w', w'.ownsRow base e size v' (n + m) (xs ++ news) → w.grownBy w' v.ownBlock → K (a.put o.dst v') w') :
    if Region.wanted o (yielded ops a.tmps) = true then Oper.wp P o a w K Q else E := by
  have hw : Region.wanted o (yielded ops a.tmps) = true := by simp [Region.wanted, hg]
  rw [if_pos hw]
  obtain ⟨v', w', hr, h2, h3, _⟩ := run_append_own (P := P) w base t o.type e i z size bytes ht hi hz hsize hby hzs hsz v n xs hown ad m c news hl hnews h1 h63 hbytes hbase
  unfold Oper.wp
  simp [execOp, hop, resolve, invoke, builtin, hs, hx, hr, Result.andThen]
  exact hK v' w' h2 h3
/-- An append whose run is known, at a step of a region that draws. -/
theorem step_append_eq8 {P : Program} {ops : Array Oper} {o : Oper} {a : Act} {w : World} {K : Act → World → Prop} {Q : Exit → Act → World → Prop} {E : Prop}
    (hg : o.guard = none) (s x : Operand) (t : TypeId) (hop : o.op = Op.call { callee := Callee.builtin Builtin.append, args := #[s, x], argTypes := #[t, t] }) (ty : TypeId) (hty : o.type = ty)
    (v u : Value) (hs : a.eval s = v) (hx : a.eval x = u) {v' : Value} {w' : World} (hr : (Builtin.append_ #[t, t] ty #[v, u]).run P w = .ok v' w') (hK : K (a.put o.dst v') w') :
    if Region.wanted o (yielded ops a.tmps) = true then Oper.wp P o a w K Q else E := by
  have hw : Region.wanted o (yielded ops a.tmps) = true := by simp [Region.wanted, hg]
  rw [if_pos hw]
  subst hty
  unfold Oper.wp
  simp [execOp, hop, resolve, invoke, builtin, hs, hx, hr, Result.andThen]
  exact hK
theorem one_cells (w : World) (x : Value) (t : TypeId) : ∀ (j : Nat) (u : Value), [x][j]? = some u → (w.alloc (.cells #[x] t)).cell? ((⟨w.heap.size, 0, none⟩ : Addr).add j) = some u := by
  intro j u hj
  match j, hj with
  | 0, hj => simp at hj; subst hj; simp [Addr.add]
/-- A row in memory stays where other blocks turn. -/
theorem row_grown {w w' : World} {row : Option Nat} {B : Nat} {e : TypeId} {k : Nat} {v : Value} {n : Nat} {xs : List Value} (h : w.ownsRow B e k v n xs) (hg : w.grownBy w' row) (hne : ∀ r, row = some r → v.ownBlock ≠ some r) : w'.ownsRow B e k v n xs := by
  refine ⟨h.1, ?_⟩
  rcases h.2 with h2 | ⟨g, cap, cur, hv, hb, hgb, rest⟩
  · exact .inl h2
  · refine .inr ⟨g, cap, cur, hv, hb, ?_, rest⟩
    rw [hg.block g (Array.getElem?_eq_some_iff.1 hgb).1 ?_]
    · exact hgb
    · intro e'
      refine hne g e'.symm ?_
      rw [hv]; rfl
theorem row_set {w : World} {B : Nat} {e : TypeId} {k : Nat} {v : Value} {n : Nat} {xs : List Value} (h : w.ownsRow B e k v n xs) {p : Addr} (hp : p.block < B) (u : Value) : (w.setCell p u).ownsRow B e k v n xs := by
  refine ⟨h.1, ?_⟩
  rcases h.2 with h2 | ⟨g, cap, cur, hv, hb, hgb, rest⟩
  · exact .inl h2
  · exact .inr ⟨g, cap, cur, hv, hb, (Below.heap_setCell w p u g (by omega)).trans hgb, rest⟩
theorem row_below {w w' : World} {B : Nat} {e : TypeId} {k : Nat} {v : Value} {n : Nat} {xs : List Value} (h : w.ownsRow B e k v n xs) (hb : Below w.heap.size w w') : w'.ownsRow B e k v n xs := by
  refine ⟨h.1, ?_⟩
  rcases h.2 with h2 | ⟨g, cap, cur, hv, hbg, hgb, rest⟩
  · exact .inl h2
  · exact .inr ⟨g, cap, cur, hv, hbg, (hb.block g (Array.getElem?_eq_some_iff.1 hgb).1).trans hgb, rest⟩
/-- Rows of two element types lie in two blocks. -/
theorem rows_apart {w : World} {B B' : Nat} {e e' : TypeId} {k k' : Nat} {v v' : Value} {n n' : Nat} {xs xs' : List Value} (h : w.ownsRow B e k v n xs) (h' : w.ownsRow B' e' k' v' n' xs') (hne : e ≠ e') : ∀ r, v.ownBlock = some r → v'.ownBlock ≠ some r := by
  intro r hr hr'
  rcases h.2 with ⟨h2, _⟩ | ⟨g, cap, cur, hv, _, hgb, _⟩
  · rw [h2] at hr; cases hr
  · rcases h'.2 with ⟨h2, _⟩ | ⟨g', cap', cur', hv', _, hgb', _⟩
    · rw [h2] at hr'; cases hr'
    · rw [hv] at hr
      rw [hv'] at hr'
      have e1 : g = r := by simpa [Value.ownBlock] using hr
      have e2 : g' = r := by simpa [Value.ownBlock] using hr'
      subst e1
      subst e2
      rw [hgb] at hgb'
      injection hgb' with hgb'
      injection hgb' with _ h3 _
      exact hne h3
theorem row_set2 {w : World} {B : Nat} {e : TypeId} {k : Nat} {v : Value} {n : Nat} {xs : List Value} (h : w.ownsRow B e k v n xs) {p : Addr} (hp : ∀ r, v.ownBlock = some r → r ≠ p.block) (u : Value) : (w.setCell p u).ownsRow B e k v n xs := by
  refine ⟨h.1, ?_⟩
  rcases h.2 with h2 | ⟨g, cap, cur, hv, hb, hgb, rest⟩
  · exact .inl h2
  · exact .inr ⟨g, cap, cur, hv, hb, (Below.heap_setCell w p u g (hp g (by rw [hv]; rfl))).trans hgb, rest⟩
end K
namespace W
set_option maxRecDepth 100000
theorem row_val {w : World} {B : Nat} {e : TypeId} {k : Nat} {v : Value} {n : Nat} {xs : List Value} (h : w.ownsRow B e k v n xs) : ∃ A c, v = .slice A n c := by
  rcases h.2 with ⟨h1, h2⟩ | ⟨g, cap, cur, hv, _⟩
  · subst h2; exact ⟨none, 0, h1⟩
  · exact ⟨_, _, hv⟩
theorem own_lt {w : World} {B : Nat} {e : TypeId} {k : Nat} {v : Value} {n : Nat} {xs : List Value} (h : w.ownsRow B e k v n xs) : ∀ r, v.ownBlock = some r → r < w.heap.size := by
  intro r hr
  rcases h.2 with ⟨h2, _⟩ | ⟨g, cap, cur, hv, _, hgb, _⟩
  · rw [h2] at hr; cases hr
  · rw [hv] at hr
    have e1 : g = r := by simpa [Value.ownBlock] using hr
    subst e1
    exact (Array.getElem?_eq_some_iff.1 hgb).1
theorem lt_of_cell {w : World} {b o : Nat} {v : Value} (h : w.cell? ⟨b, o, none⟩ = some v) : b < w.heap.size := lt_cell h
theorem own_casesN {w : World} {base m : Nat} {e : TypeId} {v : Value} {n : Nat} {xs : List Value} (h : w.ownsRow base e m v n xs) : (v = .slice none 0 0 ∧ n = 0) ∨ ∃ g cap, v = .slice (some ⟨g, 0, none⟩) n cap ∧ n ≤ cap ∧ cap ≤ 9223372036854775807 ∧ g < w.heap.size := by
  rcases h.2 with h | ⟨g, cap, cur, hv, hg, hh, h1, h2, _⟩
  · exact .inl h
  · exact .inr ⟨g, cap, hv, h1, by unfold maxLen at h2; exact h2, (Array.getElem?_eq_some_iff.1 hh).1⟩
theorem info_parts {t : TypeId} {z : Value} {s b : Nat} (h : (Tryz.prog.info? t).map (fun i => (i.zero, i.size, i.bytes)) = some (some z, s, b)) : ∃ i, Tryz.prog.info? t = some i ∧ i.zero = some z ∧ i.size = s ∧ i.bytes = b := by
  obtain ⟨i, hi, he⟩ := Option.map_eq_some_iff.1 h
  simp only [Prod.mk.injEq] at he
  exact ⟨i, hi, he.1, he.2.1, he.2.2⟩
theorem infoStr : (Tryz.prog.info? 9).map (fun i => (i.zero, i.size, i.bytes)) = some (some (.string ⟨#[]⟩), 1, 16) := by kernel_rfl
section
variable {α : Type} {m : Nat} {enc : α → List Value}
theorem flat_len (hm : ∀ x, (enc x).length = m) : ∀ l : List α, (l.flatMap enc).length = l.length * m
  | [] => by simp
  | x :: l => by rw [List.flatMap_cons, List.length_append, flat_len hm l, hm, List.length_cons, Nat.succ_mul]; omega
theorem flat_at (hm : ∀ x, (enc x).length = m) : ∀ {l : List α} {i : Nat} {x : α}, l[i]? = some x → ∀ (j : Nat) (u : Value), (enc x)[j]? = some u → (l.flatMap enc)[i * m + j]? = some u
  | [], _, _, h, _, _, _ => by simp at h
  | y :: l, 0, x, h, j, u, hj => by
    simp at h; subst h
    rw [List.flatMap_cons, Nat.zero_mul, Nat.zero_add, List.getElem?_append_left]
    · exact hj
    · exact (List.getElem?_eq_some_iff.1 hj).1
  | y :: l, i + 1, x, h, j, u, hj => by
    rw [List.getElem?_cons_succ] at h
    rw [List.flatMap_cons, List.getElem?_append_right (by rw [hm, Nat.succ_mul]; omega), hm, show (i + 1) * m + j - m = i * m + j by rw [Nat.succ_mul]; omega]
    exact flat_at hm h j u hj
theorem flat_of (hm : ∀ x, (enc x).length = m) : ∀ {l : List α} {k : Nat} {u : Value}, (l.flatMap enc)[k]? = some u → ∃ i x j, l[i]? = some x ∧ (enc x)[j]? = some u ∧ k = i * m + j
  | [], _, _, h => by simp at h
  | y :: l, k, u, h => by
    rw [List.flatMap_cons] at h
    rcases Nat.lt_or_ge k m with hk | hk
    · rw [List.getElem?_append_left (by rw [hm]; exact hk)] at h
      exact ⟨0, y, k, rfl, h, by omega⟩
    · rw [List.getElem?_append_right (by rw [hm]; exact hk), hm] at h
      obtain ⟨i, x, j, h1, h2, h3⟩ := flat_of hm h
      exact ⟨i + 1, x, j, by rw [List.getElem?_cons_succ]; exact h1, h2, by rw [Nat.succ_mul]; omega⟩
/-- The elements l stand in block b from off on, m cells each. -/
def RAt (m : Nat) (enc : α → List Value) (w : World) (b off : Nat) (l : List α) : Prop := ∀ (i : Nat) (x : α), l[i]? = some x → ∀ (j : Nat) (u : Value), (enc x)[j]? = some u → w.cell? ⟨b, off + i * m + j, none⟩ = some u
/-- A slice of such elements. -/
def RV (m : Nat) (enc : α → List Value) (w : World) (v : Value) (l : List α) : Prop :=
  ∃ A cap, v = .slice A l.length cap ∧ l.length ≤ cap ∧ (l = [] ∨ ∃ b off, A = some ⟨b, off, none⟩ ∧ b < w.heap.size ∧ RAt m enc w b off l)
theorem RAt.below {w w' : World} {b off : Nat} {l : List α} (h : RAt m enc w b off l) (hb : Below w.heap.size w w') (hlt : b < w.heap.size) : RAt m enc w' b off l :=
  fun i x hi j u hj => (hb.cell (p := ⟨b, off + i * m + j, none⟩) hlt).trans (h i x hi j u hj)
theorem RV.below {w w' : World} {v : Value} {l : List α} (h : RV m enc w v l) (hb : Below w.heap.size w w') : RV m enc w' v l := by
  obtain ⟨A, cap, rfl, hc, h⟩ := h
  refine ⟨A, cap, rfl, hc, ?_⟩
  rcases h with h | ⟨b, off, h1, h2, h3⟩
  · exact .inl h
  · exact .inr ⟨b, off, h1, Nat.lt_of_lt_of_le h2 hb.size, h3.below hb h2⟩
theorem RV.keep {w w' : World} {B : Nat} {v : Value} {l : List α} (h : RV m enc w v l) (hB : w.heap.size ≤ B) (hb : Below B w w') : RV m enc w' v l := h.below (hb.mono hB)
theorem RV.nil (w : World) : RV m enc w (.slice none 0 0) [] := ⟨none, 0, rfl, Nat.zero_le _, .inl rfl⟩
theorem RV.slice {w : World} {v : Value} {l : List α} (h : RV m enc w v l) : ∃ A cap, v = .slice A l.length cap ∧ l.length ≤ cap := by
  obtain ⟨A, cap, rfl, hc, _⟩ := h
  exact ⟨A, cap, rfl, hc⟩
theorem RV.get {w : World} {A : Option Addr} {n cap : Nat} {l : List α} (h : RV m enc w (.slice A n cap) l) {i : Nat} {x : α} (hi : l[i]? = some x) :
    ∃ b off, A = some ⟨b, off, none⟩ ∧ b < w.heap.size ∧ ∀ j u, (enc x)[j]? = some u → w.cell? ⟨b, off + i * m + j, none⟩ = some u := by
  obtain ⟨A', cap', h1, hc, h2⟩ := h
  injection h1 with h1 h3 h4
  subst h1
  rcases h2 with h2 | ⟨b, off, hA, hlt, hr⟩
  · rw [h2] at hi; simp at hi
  · exact ⟨b, off, hA, hlt, hr i x hi⟩
theorem RV.at_ {w : World} {A : Option Addr} {n cap : Nat} {l : List α} (h : RV m enc w (.slice A n cap) l) (hl : l ≠ []) : n = l.length ∧ ∃ b off, A = some ⟨b, off, none⟩ ∧ b < w.heap.size ∧ RAt m enc w b off l := by
  obtain ⟨A', cap', h1, hc, h2⟩ := h
  injection h1 with h1 h3 h4
  subst h1
  rcases h2 with h2 | ⟨b, off, hA, hlt, hr⟩
  · exact absurd h2 hl
  · exact ⟨h3, b, off, hA, hlt, hr⟩
theorem RAt.flat {w : World} {b off : Nat} {l : List α} (h : RAt m enc w b off l) (hm : ∀ x, (enc x).length = m) : ∀ j u, (l.flatMap enc)[j]? = some u → w.cell? ((⟨b, off, none⟩ : Addr).add j) = some u := by
  intro k u hk
  obtain ⟨i, x, j, h1, h2, rfl⟩ := flat_of hm hk
  have := h i x h1 j u h2
  rw [Nat.add_assoc] at this
  rw [show (⟨b, off, none⟩ : Addr).add (i * m + j) = ⟨b, off + (i * m + j), none⟩ by unfold Addr.add; split <;> simp_all]
  exact this
theorem RAt.of_flat {w : World} {b off : Nat} {l : List α} (hm : ∀ x, (enc x).length = m) (h : ∀ j u, (l.flatMap enc)[j]? = some u → w.cell? ⟨b, off + j, none⟩ = some u) : RAt m enc w b off l := by
  intro i x hi j u hj
  have := h _ u (flat_at hm hi j u hj)
  rw [← Nat.add_assoc] at this
  exact this
theorem RAt.drop {w : World} {b off : Nat} {l : List α} (h : RAt m enc w b off l) (k : Nat) : RAt m enc w b (off + k * m) (l.drop k) := by
  intro i x hi j u hj
  rw [List.getElem?_drop] at hi
  have := h (k + i) x hi j u hj
  rw [show off + k * m + i * m + j = off + (k + i) * m + j by rw [Nat.add_mul]; omega]
  exact this
theorem RAt.take {w : World} {b off : Nat} {l : List α} (h : RAt m enc w b off l) (k : Nat) : RAt m enc w b off (l.take k) := by
  intro i x hi j u hj
  refine h i x ?_ j u hj
  rw [List.getElem?_take] at hi
  split at hi
  · exact hi
  · cases hi
/-- An own row of such elements. -/
def OR (m : Nat) (enc : α → List Value) (T : TypeId) (base : Nat) (w : World) (v : Value) (l : List α) : Prop := w.ownsRow base T m v l.length (l.flatMap enc)
theorem OR.rv {T : TypeId} {base : Nat} {w : World} {v : Value} {l : List α} (h : OR m enc T base w v l) (hm : ∀ x, (enc x).length = m) : RV m enc w v l := by
  unfold OR at h
  rcases own_casesN h with ⟨h1, h2⟩ | ⟨g, cap, h1, h2, h3, h4⟩
  · rw [List.eq_nil_of_length_eq_zero h2, h1]; exact RV.nil w
  · refine ⟨_, cap, h1, h2, .inr ⟨g, 0, rfl, h4, RAt.of_flat hm fun j u hj => ?_⟩⟩
    have := h.cells (g := g) (by rw [h1]; rfl) j u hj
    rw [Nat.zero_add]
    rw [show (⟨g, 0, none⟩ : Addr).add j = ⟨g, j, none⟩ by unfold Addr.add; split <;> simp_all] at this
    exact this
theorem OR.nil (T : TypeId) (base : Nat) (w : World) : OR m enc T base w (.slice none 0 0) [] := ⟨by simp, .inl ⟨rfl, rfl⟩⟩
theorem OR.below {T : TypeId} {base : Nat} {w w' : World} {v : Value} {l : List α} (h : OR m enc T base w v l) (hb : Below w.heap.size w w') : OR m enc T base w' v l := row_below h hb
theorem OR.val {T : TypeId} {base : Nat} {w : World} {v : Value} {l : List α} (h : OR m enc T base w v l) : ∃ A c, v = .slice A l.length c := row_val h
end
/-- Strings, and strings with an int. -/
def es (s : List UInt8) : List Value := [.string ⟨s.toArray⟩]
def e2 (r : List UInt8 × Int) : List Value := [.string ⟨r.1.toArray⟩, .int .i64 r.2]
theorem es_len (x : List UInt8) : (es x).length = 1 := rfl
theorem e2_len (x : List UInt8 × Int) : (e2 x).length = 2 := rfl
theorem own_ge {w : World} {B m : Nat} {T : TypeId} {v : Value} {n : Nat} {xs : List Value} (h : w.ownsRow B T m v n xs) : ∀ r, v.ownBlock = some r → B ≤ r := by
  intro r hr
  rcases h.2 with ⟨h1, _⟩ | ⟨g, cap, cur, h1, h2, _⟩
  · rw [h1] at hr; cases hr
  · rw [h1] at hr; simp [Value.ownBlock] at hr; omega
set_option maxRecDepth 100000
theorem append_eqT {P : Program} {w w' : World} {ops : Array Oper} {rest : List Oper} {o : Oper} {a : Act} {Q : Exit → Act → World → Prop} (hgd : o.guard = none) (s x : Operand) (t : TypeId)
    (ho : o.op = .call { callee := .builtin .append, args := #[s, x], argTypes := #[t, t] }) (v u v' : Value) (hs : a.eval s = v) (hx : a.eval x = u)
    (hr : (Builtin.append_ #[t, t] o.type #[v, u]).run P w = .ok v' w') (h : wpList P ops Q rest (a.put o.dst v') w') : wpList P ops Q (o :: rest) a w := by
  refine wpList_plain hgd fun K hK => ?_
  unfold Oper.wp execOp
  simp only [ho, resolve, invoke, builtin, Sem.run_bind, Sem.run_pure, Result.andThen_ok, List.map_toArray, List.map_cons, List.map_nil, hs, hx, hr]
  exact hK _ _ h
theorem clone_row {α : Type} {m : Nat} {enc : α → List Value} (hm : ∀ x, (enc x).length = m) (h1 : ∀ (x : α), ∀ u ∈ enc x, u.oneCell' = true) {P : Program} {ST T : TypeId} {i : TypeInfo} {z : Value} {bytes : Nat}
    (ht : P.underlying ST = some (.slice T)) (hi : P.info? T = some i) (hz : i.zero = some z) (hs : i.size = m) (hb : i.bytes = bytes) (hzs : z.cells.size = m) (hpos : 0 < m) (hby : bytes ≤ 1000)
    {w : World} {A : Option Addr} {n c : Nat} {l : List α} (h : RV m enc w (.slice A n c) l) (hl : l.length ≤ 100000) :
    ∃ A' c' w', (Builtin.append_ #[ST, ST] ST #[.slice none 0 0, .slice A n c]).run P w = .ok (.slice A' n c') w' ∧ RV m enc w' (.slice A' n c') l ∧ Below w.heap.size w w' := by
  obtain ⟨A0, c0, h0, hc, hr⟩ := h
  injection h0 with e1 e2 e3
  subst e1 e2 e3
  cases A with
  | none =>
    have hl0 : l = [] := by
      rcases hr with hr | ⟨b, off, h, _⟩
      · exact hr
      · cases h
    subst hl0
    exact ⟨none, 0, w, run_append_nothing _ _ _ _ T i ht hi _ 0 0 (Nat.le_refl _) _ (Src.ofNil _ ht c), RV.nil _, Below.refl _ _⟩
  | some ad =>
    have hnews : ∀ j u, (l.flatMap enc)[j]? = some u → w.cell? (ad.add j) = some u := by
      rcases hr with hr | ⟨b, off, h, hlt, hat⟩
      · subst hr; intro j u h; simp at h
      · injection h with h
        subst h
        exact hat.flat hm
    have hones : ∀ u ∈ l.flatMap enc, u.oneCell' = true := by
      intro u hu
      obtain ⟨x, _, hx⟩ := List.mem_flatMap.1 hu
      exact h1 x u hx
    obtain ⟨v', w', r1, r2, r3, -, -⟩ := run_append_own_at (P := P) (w := w) w.heap.size ST ST T i z m bytes ht hi hz hs hb hzs hpos _ 0 [] (World.ownsRow_nil _ _ _ _) ad l.length c (l.flatMap enc) (flat_len hm l) hnews hones (by unfold maxLen; omega) (by have := Nat.mul_le_mul (show 0 + l.length ≤ 100000 by omega) hby; omega) (Nat.le_refl _)
    have hO : OR m enc T w.heap.size w' v' l := by unfold OR; simpa using r2
    obtain ⟨A', c', rfl⟩ := hO.val
    exact ⟨A', c', w', r1, hO.rv hm, (Below.refl _ w).grown r3 (Nat.le_refl _) (fun r hr => own_ge (World.ownsRow_nil w w.heap.size T m) r hr)⟩
set_option maxRecDepth 100000
/-- A store of a whole block, at a step of a region that draws. -/
theorem step_put {P : Program} {ops : Array Oper} {o : Oper} {a : Act} {w : World} {K : Act → World → Prop} {Q : Exit → Act → World → Prop} {E : Prop}
    (hg : o.guard = none) (ty : TypeId) (x y : Operand) (hop : o.op = .store ty x y) (b : Nat) (cells : Array Value) (hx : a.eval x = .pointer (some ⟨b, 0, none⟩)) (hy : a.eval y = .agg cells)
    (t : TypeId) (old : Array Value) (hh : w.heap[b]? = some (.cells old t (0, 0))) (hi : (P.info? ty).map (·.size) = some cells.size) (hold : old.size = cells.size) (h1 : cells.all (·.oneCell') = true)
    (base : Nat) (w0 : World) (hb0 : Below base w0 w) (hle : base ≤ b) (hK : ∀ w', w'.heap[b]? = some (.cells cells t (0, 0)) → Below base w0 w' → K (a.put o.dst undef) w') :
    if Region.wanted o (yielded ops a.tmps) = true then Oper.wp P o a w K Q else E := by
  have hw : Region.wanted o (yielded ops a.tmps) = true := by simp [Region.wanted, hg]
  rw [if_pos hw]
  refine wp_store_row ty x y hop b cells hx hy t old hh hi hold h1 (hK _ (setRow_heap w b old cells t (0, 0) hh) ⟨hb0.os, hb0.tape, hb0.output, by rw [setRow_size]; exact hb0.size, fun k hk => ?_⟩)
  rw [setRow_other w b k cells (by omega)]
  exact hb0.block k hk
theorem rowB {B b : Nat} {w v : World} (h : Below B w v) (hb : B ≤ b) (cs : Array Value) : Below B w (v.setRow b cs) :=
  ⟨h.os, h.tape, h.output, by rw [setRow_size]; exact h.size, fun k hk => by rw [setRow_other v b k cs (by omega)]; exact h.block k hk⟩
theorem results_cell2 {fn : Func} {a : Tmp} {t : TypeId} {u : Tmp} (h : fn.results = #[.cell a t, .tmp u]) (tmps : Array Value) (P : Program) (w : World) (ad : Addr) (v : Value) (ha : tmps.getD a undef = .pointer (some ad)) (hl : (loadVar t ad).run P w = .ok v w) :
    (results fn tmps).run P w = .ok (.tuple #[v, tmps.getD u undef]) w := by
  rw [Array.getD_eq_getD_getElem?] at ha
  simp [results, h, ha, hl, asAddr]
theorem clone_own {α : Type} {m : Nat} {enc : α → List Value} (hm : ∀ x, (enc x).length = m) (h1 : ∀ (x : α), ∀ u ∈ enc x, u.oneCell' = true) {P : Program} {ST T : TypeId} {i : TypeInfo} {z : Value} {bytes : Nat}
    (ht : P.underlying ST = some (.slice T)) (hi : P.info? T = some i) (hz : i.zero = some z) (hs : i.size = m) (hb : i.bytes = bytes) (hzs : z.cells.size = m) (hpos : 0 < m) (hby : bytes ≤ 1000)
    {w : World} {A : Option Addr} {n c : Nat} {l : List α} (h : RV m enc w (.slice A n c) l) (hl : l.length ≤ 100000) :
    ∃ v' w', (Builtin.append_ #[ST, ST] ST #[.slice none 0 0, .slice A n c]).run P w = .ok v' w' ∧ OR m enc T w.heap.size w' v' l ∧ Below w.heap.size w w' := by
  obtain ⟨A0, c0, h0, hc, hr⟩ := h
  injection h0 with e1 e2 e3
  subst e1 e2 e3
  cases A with
  | none =>
    have hl0 : l = [] := by
      rcases hr with hr | ⟨b, off, h, _⟩
      · exact hr
      · cases h
    subst hl0
    exact ⟨_, w, run_append_nothing _ _ _ _ T i ht hi _ 0 0 (Nat.le_refl _) _ (Src.ofNil _ ht c), OR.nil _ _ _, Below.refl _ _⟩
  | some ad =>
    have hnews : ∀ j u, (l.flatMap enc)[j]? = some u → w.cell? (ad.add j) = some u := by
      rcases hr with hr | ⟨b, off, h, hlt, hat⟩
      · subst hr; intro j u h; simp at h
      · injection h with h
        subst h
        exact hat.flat hm
    have hones : ∀ u ∈ l.flatMap enc, u.oneCell' = true := by
      intro u hu
      obtain ⟨x, _, hx⟩ := List.mem_flatMap.1 hu
      exact h1 x u hx
    obtain ⟨v', w', r1, r2, r3, -, -⟩ := run_append_own_at (P := P) (w := w) w.heap.size ST ST T i z m bytes ht hi hz hs hb hzs hpos _ 0 [] (World.ownsRow_nil _ _ _ _) ad l.length c (l.flatMap enc) (flat_len hm l) hnews hones (by unfold maxLen; omega) (by have := Nat.mul_le_mul (show 0 + l.length ≤ 100000 by omega) hby; omega) (Nat.le_refl _)
    have hO : OR m enc T w.heap.size w' v' l := by unfold OR; simpa using r2
    exact ⟨v', w', r1, hO, (Below.refl _ w).grown r3 (Nat.le_refl _) (fun r hr => own_ge (World.ownsRow_nil w w.heap.size T m) r hr)⟩
theorem OR.put {α : Type} {m : Nat} {enc : α → List Value} {T : TypeId} {B : Nat} {w : World} {v : Value} {l : List α} (h : OR m enc T B w v l) (hm : ∀ x, (enc x).length = m) (q : Nat) (hq : q < B) (cs : Array Value) : RV m enc (w.setRow q cs) v l := by
  obtain ⟨A, cap, rfl, hc, hr⟩ := h.rv hm
  refine ⟨A, cap, rfl, hc, ?_⟩
  rcases hr with hr | ⟨b, off, rfl, hb, hat⟩
  · exact .inl hr
  · refine .inr ⟨b, off, rfl, by rw [setRow_size]; exact hb, fun i x hx j u hj => ?_⟩
    have hge := own_ge h b rfl
    rw [← hat i x hx j u hj]
    unfold World.cell?
    rw [setRow_other w q b cs (by omega)]
set_option maxRecDepth 100000
theorem run_storeVar_sl {P : Program} (w : World) (ad : Addr) (ty : TypeId) (A : Option Addr) (n c : Nat) (old : Value) (hi : (P.info? ty).map (·.size) = some 1) (hc : w.cell? ad = some old) (hf : w.frozen? ad = false) : (storeVar ty ad (.slice A n c)).run P w = .ok () (w.setCell ad (.slice A n c)) := by
  have h0 : ad.add 0 = ad := by obtain ⟨b, o, z⟩ := ad; cases z <;> rfl
  cases hq : P.info? ty with
  | none => simp [hq] at hi
  | some i =>
    have hs : i.size = 1 := by simpa [hq] using hi
    simp [storeVar, sizeOf, typeInfo, hq, hs, storeCells, h0, go_sem, hc, hf]
theorem run_storeVar_int {P : Program} (w : World) (ad : Addr) (ty : TypeId) (k : Int) (old : Value) (hi : (P.info? ty).map (·.size) = some 1) (hc : w.cell? ad = some old) (hf : w.frozen? ad = false) : (storeVar ty ad (.int .i64 k)).run P w = .ok () (w.setCell ad (.int .i64 k)) := by
  have h0 : ad.add 0 = ad := by obtain ⟨b, o, z⟩ := ad; cases z <;> rfl
  cases hq : P.info? ty with
  | none => simp [hq] at hi
  | some i =>
    have hs : i.size = 1 := by simpa [hq] using hi
    simp [storeVar, sizeOf, typeInfo, hq, hs, storeCells, h0, go_sem, hc, hf]
set_option maxRecDepth 100000
theorem run_storeVar_str {P : Program} (w : World) (ad : Addr) (ty : TypeId) (s : ByteArray) (old : Value) (hi : (P.info? ty).map (·.size) = some 1) (hc : w.cell? ad = some old) (hf : w.frozen? ad = false) : (storeVar ty ad (.string s)).run P w = .ok () (w.setCell ad (.string s)) := by
  have h0 : ad.add 0 = ad := by obtain ⟨b, o, z⟩ := ad; cases z <;> rfl
  cases hq : P.info? ty with
  | none => simp [hq] at hi
  | some i =>
    have hs : i.size = 1 := by simpa [hq] using hi
    simp [storeVar, sizeOf, typeInfo, hq, hs, storeCells, h0, go_sem, hc, hf]
/-- A row whose block is a late one stays when only elder blocks change. -/
theorem OR.late {α : Type} {m : Nat} {enc : α → List Value} {T : TypeId} {B : Nat} {w w' : World} {v : Value} {l : List α} (h : OR m enc T B w v l) (hm : ∀ x, (enc x).length = m) (hz : w.heap.size ≤ w'.heap.size) (hb : ∀ k, B ≤ k → w'.heap[k]? = w.heap[k]?) : RV m enc w' v l := by
  obtain ⟨A, cap, rfl, hc, hr⟩ := h.rv hm
  refine ⟨A, cap, rfl, hc, ?_⟩
  rcases hr with hr | ⟨b, off, rfl, hlt, hat⟩
  · exact .inl hr
  · refine .inr ⟨b, off, rfl, Nat.lt_of_lt_of_le hlt hz, fun i x hx j u hj => ?_⟩
    have hge := own_ge h b rfl
    rw [← hat i x hx j u hj]
    unfold World.cell?
    rw [hb b hge]
theorem RV.late {α : Type} {m : Nat} {enc : α → List Value} {B : Nat} {w w' : World} {v : Value} {l : List α} (h : RV m enc w v l) (hg : ∀ r, v.ownBlock = some r → B ≤ r) (hz : w.heap.size ≤ w'.heap.size) (hb : ∀ k, B ≤ k → k < w.heap.size → w'.heap[k]? = w.heap[k]?) : RV m enc w' v l := by
  obtain ⟨A, cap, rfl, hc, hr⟩ := h
  refine ⟨A, cap, rfl, hc, ?_⟩
  rcases hr with hr | ⟨b, off, rfl, hlt, hat⟩
  · exact .inl hr
  · refine .inr ⟨b, off, rfl, Nat.lt_of_lt_of_le hlt hz, fun i x hx j u hj => ?_⟩
    have hge := hg b rfl
    rw [← hat i x hx j u hj]
    unfold World.cell?
    rw [hb b hge hlt]
theorem bya {Y V : World} (h : Below Y.heap.size Y V) (o : Obj) : Below Y.heap.size Y (V.alloc o) := h.alloc h.size o
theorem hblk_d {V : World} {k : Nat} {o : Option Obj} (h : V.heap[k]? = o) : V.drew.heap[k]? = o := h
theorem hblk_a {V : World} {k : Nat} {o x : Obj} (h : V.heap[k]? = some o) : (V.alloc x).heap[k]? = some o := (Below.heap_alloc _ _ _ (Array.getElem?_eq_some_iff.1 h).1).trans h
theorem hblk_n {V : World} {k : Nat} {o : Obj} (h : k = V.heap.size) : (V.alloc o).heap[k]? = some o := al_new' _ _ _ h
/-- Of what was there, the examiner's box alone is turned. -/
def OneBox (g : Nat) (w w' : World) : Prop := w.heap.size ≤ w'.heap.size ∧ (∀ q, q < w.heap.size → q ≠ g → w'.heap[q]? = w.heap[q]?) ∧ Below g w w'
theorem OneBox.refl (g : Nat) (w : World) : OneBox g w w := ⟨Nat.le_refl _, fun _ _ _ => rfl, Below.refl _ _⟩
theorem OneBox.alloc {g : Nat} {a w : World} (h : OneBox g a w) (hg : g < a.heap.size) (o : Obj) : OneBox g a (w.alloc o) :=
  ⟨by have := h.1; simp; omega, fun q h1 h2 => (Below.heap_alloc _ _ _ (Nat.lt_of_lt_of_le h1 h.1)).trans (h.2.1 q h1 h2), h.2.2.alloc (by have := h.1; omega) o⟩
theorem OneBox.set {g : Nat} {a w : World} (h : OneBox g a w) (o : Nat) (v : Value) : OneBox g a (w.setCell ⟨g, o, none⟩ v) :=
  ⟨by have := h.1; simpa using this, fun q h1 h2 => (Below.heap_setCell _ _ _ _ (by dsimp only; exact h2)).trans (h.2.1 q h1 h2), h.2.2.setCell (p := ⟨g, o, none⟩) (Nat.le_refl _) v⟩
theorem OneBox.of {g : Nat} {w w' : World} (hg : g < w.heap.size) (h : Below w.heap.size w w') : OneBox g w w' := ⟨h.size, fun q h1 _ => h.block q h1, h.mono (Nat.le_of_lt hg)⟩
theorem OneBox.trans {g : Nat} {a b c : World} (h : OneBox g a b) (k : OneBox g b c) : OneBox g a c :=
  ⟨Nat.le_trans h.1 k.1, fun q h1 h2 => (k.2.1 q (Nat.lt_of_lt_of_le h1 h.1) h2).trans (h.2.1 q h1 h2), h.2.2.trans k.2.2⟩
set_option maxRecDepth 100000
/-- Strings in a slice. -/
abbrev SV (w : World) (v : Value) (l : List (List UInt8)) : Prop := RV 1 es w v l
theorem SV.get {w : World} {A : Option Addr} {n cap : Nat} {l : List (List UInt8)} (h : SV w (.slice A n cap) l) {i : Nat} {x : List UInt8} (hi : l[i]? = some x) :
    ∃ b off, A = some ⟨b, off, none⟩ ∧ b < w.heap.size ∧ w.cell? ⟨b, off + i, none⟩ = some (.string ⟨x.toArray⟩) := by
  obtain ⟨b, off, h1, h2, h3⟩ := RV.get h hi
  refine ⟨b, off, h1, h2, ?_⟩
  have := h3 0 _ rfl
  rwa [Nat.mul_one, Nat.add_zero] at this
theorem es_ones : ∀ (x : List UInt8), ∀ u ∈ es x, u.oneCell' = true := by
  intro x u hu
  simp [es] at hu
  subst hu
  rfl
theorem str_two (w : World) (T : TypeId) (q : Nat) (a b : List UInt8) (h : w.heap[q]? = some (.cells #[.string ⟨a.toArray⟩, .string ⟨b.toArray⟩] T (0, 0))) : SV w (.slice (some ⟨q, 0, none⟩) 2 2) [a, b] := by
  refine ⟨_, _, rfl, Nat.le_refl _, .inr ⟨q, 0, rfl, (Array.getElem?_eq_some_iff.1 h).1, ?_⟩⟩
  have c0 := Lib.cell_of_heap h 0
  have c1 := Lib.cell_of_heap h 1
  intro i x hx j u hj
  match j, hj with
  | 0, hj =>
    match i, hx with
    | 0, hx => simp [es] at hx hj; subst hx hj; simpa using c0
    | 1, hx => simp [es] at hx hj; subst hx hj; simpa using c1
  | j + 1, hj => simp [es] at hj
theorem str_one (w : World) (T : TypeId) (q : Nat) (a : List UInt8) (h : w.heap[q]? = some (.cells #[.string ⟨a.toArray⟩] T (0, 0))) : SV w (.slice (some ⟨q, 0, none⟩) 1 1) [a] := by
  refine ⟨_, _, rfl, Nat.le_refl _, .inr ⟨q, 0, rfl, (Array.getElem?_eq_some_iff.1 h).1, ?_⟩⟩
  have c0 := Lib.cell_of_heap h 0
  intro i x hx j u hj
  match j, hj with
  | 0, hj =>
    match i, hx with
    | 0, hx => simp [es] at hx hj; subst hx hj; simpa using c0
  | j + 1, hj => simp [es] at hj
/-- append of a list to an empty slice that is not nil. -/
theorem app_zero {i0 : TypeInfo} (hi : Tryz.prog.info? 9 = some i0) (hz0 : i0.zero = some (.string ⟨#[]⟩)) (hz1 : i0.size = 1) (hz2 : i0.bytes = 16) (Z : World) (q : Nat) (hq : Z.heap[q]? = some (.cells #[] 9 (0, 0))) (A : Option Addr) (n c : Nat) (ls : List (List UInt8)) (h : SV Z (.slice A n c) ls) (hl : ls.length ≤ 1000) :
    ∃ v' W', (Builtin.append_ #[26, 26] 26 #[.slice (some ⟨q, 0, none⟩) 0 0, .slice A n c]).run Tryz.prog Z = .ok v' W' ∧ OR 1 es 9 q W' v' ls ∧ Below q Z W' := by
  have hlt : q < Z.heap.size := (Array.getElem?_eq_some_iff.1 hq).1
  have hO : Z.ownsRow q 9 1 (.slice (some ⟨q, 0, none⟩) 0 0) 0 [] := ⟨rfl, .inr ⟨q, 0, #[], rfl, Nat.le_refl _, hq, Nat.le_refl _, by decide, rfl, rfl⟩⟩
  obtain ⟨A0, c0, h0, hc, hr⟩ := h
  injection h0 with e1 e2 e3
  subst e1 e2 e3
  cases A with
  | none =>
    have hl0 : ls = [] := by
      rcases hr with hr | ⟨b, off, h, _⟩
      · exact hr
      · cases h
    subst hl0
    exact ⟨_, Z, run_append_nothing _ _ _ _ 9 i0 Tryz.underlying26 hi _ 0 0 (Nat.le_refl _) _ (Src.ofNil _ Tryz.underlying26 c), hO, Below.refl _ _⟩
  | some ad =>
    have hnews : ∀ j u, (ls.flatMap es)[j]? = some u → Z.cell? (ad.add j) = some u := by
      rcases hr with hr | ⟨b, off, h, hlt, hat⟩
      · subst hr; intro j u h; simp at h
      · injection h with h
        subst h
        exact hat.flat es_len
    have hones : ∀ u ∈ ls.flatMap es, u.oneCell' = true := by
      intro u hu
      obtain ⟨x, _, hx⟩ := List.mem_flatMap.1 hu
      exact es_ones x u hx
    obtain ⟨v', w', r1, r2, r3, -, -⟩ := run_append_own_at (P := Tryz.prog) (w := Z) q 26 26 9 i0 _ 1 16 Tryz.underlying26 hi hz0 hz1 hz2 rfl (by decide) _ 0 [] hO ad ls.length c (ls.flatMap es) (flat_len es_len ls) hnews hones (by unfold maxLen; omega) (by omega) (Nat.le_of_lt hlt)
    exact ⟨v', w', r1, by unfold OR; simpa using r2, (Below.refl _ Z).grown r3 (Nat.le_of_lt hlt) (fun r hr => own_ge hO r hr)⟩
theorem wpList_copy_eq {P : Program} (w : World) {ops : Array Oper} {rest : List Oper} {o : Oper} {a : Act} {Q : Exit → Act → World → Prop} (hgd : o.guard = none) (d s : Operand) (t t' : TypeId)
    (ho : o.op = .call { callee := .builtin .copy, args := #[d, s], argTypes := #[t, t'] }) (v u : Value) (hd : a.eval d = v) (hs : a.eval s = u) {v' : Value} {w' : World}
    (hr : (Builtin.copy_ #[t, t'] o.type #[v, u]).run P w = .ok v' w') (h : wpList P ops Q rest (a.put o.dst v') w') : wpList P ops Q (o :: rest) a w := by
  refine wpList_plain hgd fun K hK => ?_
  unfold Oper.wp execOp
  simp only [ho, resolve, invoke, builtin, Sem.run_bind, Sem.run_pure, Result.andThen_ok, List.map_toArray, List.map_cons, List.map_nil, hd, hs, hr]
  exact hK _ _ h
theorem step_copy_eq {P : Program} {ops : Array Oper} {o : Oper} {a : Act} {w : World} {K : Act → World → Prop} {Q : Exit → Act → World → Prop} {E : Prop}
    (hg : o.guard = none) (d x : Operand) (dT sT : TypeId) (hop : o.op = Op.call { callee := Callee.builtin Builtin.copy, args := #[d, x], argTypes := #[dT, sT] })
    (v u : Value) (hd : a.eval d = v) (hx : a.eval x = u) {v' : Value} {w' : World} (hr : (Builtin.copy_ #[dT, sT] o.type #[v, u]).run P w = .ok v' w') (hK : K (a.put o.dst v') w') :
    if Region.wanted o (yielded ops a.tmps) = true then Oper.wp P o a w K Q else E := by
  have hw : Region.wanted o (yielded ops a.tmps) = true := by simp [Region.wanted, hg]
  rw [if_pos hw]
  unfold Oper.wp
  simp [execOp, hop, resolve, invoke, builtin, hd, hx, hr, Result.andThen]
  exact hK

end W
end Go.Proofs.YtcbebkeakkahgaaGreatDoor
