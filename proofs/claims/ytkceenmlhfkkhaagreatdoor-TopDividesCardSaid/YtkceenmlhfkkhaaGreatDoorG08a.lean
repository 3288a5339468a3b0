/- Words: parts of any kind in memory. -/
import Derived.Test.YtkceenmlhfkkhaaGreatDoorYP
import Derived.Test.YtkceenmlhfkkhaaGreatDoorW08a
namespace Go.Proofs.YtkceenmlhfkkhaaGreatDoor
open Go.RowKit K
open WP (GP gp gpL)
namespace W
/- The cells of parts of any kind, in blocks of which F speaks. -/
mutual
def GR (w : World) (F : Nat → Prop) : GP → List Value → Prop
  | .mk k t o c ps, vs => ∃ (A : Option Addr) (cap : Nat), vs = pc k t o c (.slice A ps.length cap) ∧ (ps = [] ∨ ∃ b off cells, A = some ⟨b, off, none⟩ ∧ F b ∧ GL w F ps cells ∧ ∀ j u, cells[j]? = some u → w.cell? ⟨b, off + j, none⟩ = some u)
def GL (w : World) (F : Nat → Prop) : List GP → List Value → Prop
  | [], vs => vs = []
  | p :: ps, vs => ∃ a b, vs = a ++ b ∧ GR w F p a ∧ GL w F ps b
end
/-- A slice of parts. -/
def GS (w : World) (F : Nat → Prop) (v : Value) (l : List GP) : Prop :=
  ∃ (A : Option Addr) (cap : Nat), v = .slice A l.length cap ∧ (l = [] ∨ ∃ b off cells, A = some ⟨b, off, none⟩ ∧ F b ∧ GL w F l cells ∧ ∀ j u, cells[j]? = some u → w.cell? ⟨b, off + j, none⟩ = some u)
theorem GR.len {w : World} {F : Nat → Prop} {p : GP} {vs : List Value} (h : GR w F p vs) : vs.length = 5 := by
  obtain ⟨k, t, o, c, ps⟩ := p
  rw [GR] at h
  obtain ⟨A, cap, rfl, -⟩ := h
  rfl
theorem GL.len {w : World} {F : Nat → Prop} : ∀ {ps : List GP} {vs : List Value}, GL w F ps vs → vs.length = ps.length * 5
  | [], vs, h => by rw [GL] at h; subst h; rfl
  | p :: ps, vs, h => by
    rw [GL] at h
    obtain ⟨a, b, rfl, h1, h2⟩ := h
    rw [List.length_append, h1.len, GL.len h2, List.length_cons]
    omega
mutual
theorem GR.mono {w w' : World} {F F' : Nat → Prop} (hF : ∀ b, F b → b < w.heap.size → F' b ∧ w'.heap[b]? = w.heap[b]?) : ∀ (p : GP) (vs : List Value), GR w F p vs → GR w' F' p vs
  | .mk k t o c ps, vs, h => by
    rw [GR] at h ⊢
    obtain ⟨A, cap, h1, h2⟩ := h
    refine ⟨A, cap, h1, ?_⟩
    rcases h2 with h2 | ⟨b, off, cells, hA, hFb, hl, hc⟩
    · exact .inl h2
    · by_cases hps : ps = []
      · exact .inl hps
      have hlen := hl.len
      have hpos : 0 < cells.length := by rw [hlen]; have := List.length_pos_iff.2 hps; omega
      obtain ⟨u, hu⟩ : ∃ u, cells[0]? = some u := ⟨cells[0], by simp [hpos]⟩
      obtain ⟨h3, h4⟩ := hF b hFb (lt_cell (hc 0 u hu))
      refine .inr ⟨b, off, cells, hA, h3, GL.mono hF ps cells hl, fun j u hj => ?_⟩
      have := hc j u hj
      unfold World.cell? at this ⊢
      rw [h4]
      exact this
theorem GL.mono {w w' : World} {F F' : Nat → Prop} (hF : ∀ b, F b → b < w.heap.size → F' b ∧ w'.heap[b]? = w.heap[b]?) : ∀ (ps : List GP) (vs : List Value), GL w F ps vs → GL w' F' ps vs
  | [], vs, h => by rw [GL] at h ⊢; exact h
  | p :: ps, vs, h => by
    rw [GL] at h ⊢
    obtain ⟨a, b, h1, h2, h3⟩ := h
    exact ⟨a, b, h1, GR.mono hF p a h2, GL.mono hF ps b h3⟩
end
theorem GS.mono {w w' : World} {F F' : Nat → Prop} (hF : ∀ b, F b → b < w.heap.size → F' b ∧ w'.heap[b]? = w.heap[b]?) {v : Value} {l : List GP} (h : GS w F v l) : GS w' F' v l := by
  obtain ⟨A, cap, h1, h2⟩ := h
  refine ⟨A, cap, h1, ?_⟩
  rcases h2 with h2 | ⟨b, off, cells, hA, hFb, hl, hc⟩
  · exact .inl h2
  · by_cases hps : l = []
    · exact .inl hps
    have hlen := hl.len
    have hpos : 0 < cells.length := by rw [hlen]; have := List.length_pos_iff.2 hps; omega
    obtain ⟨u, hu⟩ : ∃ u, cells[0]? = some u := ⟨cells[0], by simp [hpos]⟩
    obtain ⟨h3, h4⟩ := hF b hFb (lt_cell (hc 0 u hu))
    refine .inr ⟨b, off, cells, hA, h3, GL.mono hF l cells hl, fun j u hj => ?_⟩
    have := hc j u hj
    unfold World.cell? at this ⊢
    rw [h4]
    exact this
/-- New memory, or writes in blocks from B on, leave parts below B as they are. -/
theorem GS.kept {w w' : World} {B : Nat} {v : Value} {l : List GP} (h : GS w (fun b => b < B) v l) (hb : Below B w w') : GS w' (fun b => b < B) v l := h.mono fun b h1 _ => ⟨h1, hb.block b h1⟩
theorem GS.below {w w' : World} {F : Nat → Prop} {v : Value} {l : List GP} (h : GS w F v l) (hb : Below w.heap.size w w') : GS w' F v l := h.mono fun b h1 h2 => ⟨h1, hb.block b h2⟩
theorem GS.nil (w : World) (F : Nat → Prop) (A : Option Addr) (cap : Nat) : GS w F (.slice A 0 cap) [] := ⟨A, cap, rfl, .inl rfl⟩
theorem GS.slice {w : World} {F : Nat → Prop} {v : Value} {l : List GP} (h : GS w F v l) : ∃ A cap, v = .slice A l.length cap := by
  obtain ⟨A, cap, h1, _⟩ := h
  exact ⟨A, cap, h1⟩
theorem GL.at_ {w : World} {F : Nat → Prop} : ∀ {l : List GP} {cells : List Value} {i : Nat} {p : GP}, GL w F l cells → l[i]? = some p → ∃ vs, GR w F p vs ∧ ∀ j u, vs[j]? = some u → cells[i * 5 + j]? = some u
  | [], _, i, p, _, hp => by simp at hp
  | q :: r, cells, i, p, h, hp => by
    rw [GL] at h
    obtain ⟨a, b, rfl, h1, h2⟩ := h
    cases i with
    | zero =>
      simp at hp
      subst hp
      refine ⟨a, h1, fun j u hj => ?_⟩
      rw [Nat.zero_mul, Nat.zero_add, List.getElem?_append_left (List.getElem?_eq_some_iff.1 hj).1]
      exact hj
    | succ i =>
      obtain ⟨vs, h3, h4⟩ := GL.at_ (i := i) h2 (by simpa using hp)
      refine ⟨vs, h3, fun j u hj => ?_⟩
      have hl := h1.len
      rw [List.getElem?_append_right (by omega), hl, show (i + 1) * 5 + j - 5 = i * 5 + j by omega]
      exact h4 j u hj
/-- What stands at an index of a slice of parts. -/
theorem GS.get {w : World} {F : Nat → Prop} {A : Option Addr} {n cap : Nat} {l : List GP} (h : GS w F (.slice A n cap) l) {i : Nat} {p : GP} (hp : l[i]? = some p) :
    ∃ b off A2 cap2, A = some ⟨b, off, none⟩ ∧ F b ∧ w.cell? ⟨b, off + i * 5, none⟩ = some (.int .i64 p.kind) ∧ w.cell? ⟨b, off + i * 5 + 1, none⟩ = some (.string ⟨p.text.toArray⟩) ∧ w.cell? ⟨b, off + i * 5 + 2, none⟩ = some (.int .i64 p.op) ∧ w.cell? ⟨b, off + i * 5 + 3, none⟩ = some (.bool p.colon) ∧ w.cell? ⟨b, off + i * 5 + 4, none⟩ = some (.slice A2 p.parts.length cap2) ∧ GS w F (.slice A2 p.parts.length cap2) p.parts := by
  obtain ⟨A', cap', h1, h2⟩ := h
  injection h1 with h1 h3 h4
  subst h1
  rcases h2 with h2 | ⟨b, off, cells, hA, hFb, hl, hc⟩
  · rw [h2] at hp; simp at hp
  · obtain ⟨vs, h5, h6⟩ := hl.at_ hp
    obtain ⟨k, t, o, c, ps⟩ := p
    rw [GR] at h5
    obtain ⟨A2, cap2, rfl, h7⟩ := h5
    have g : ∀ j u, (pc k t o c (.slice A2 ps.length cap2))[j]? = some u → w.cell? ⟨b, off + i * 5 + j, none⟩ = some u := fun j u hj => by
      have := hc _ u (h6 j u hj)
      rwa [← Nat.add_assoc] at this
    exact ⟨b, off, A2, cap2, hA, hFb, g 0 _ rfl, g 1 _ rfl, g 2 _ rfl, g 3 _ rfl, g 4 _ rfl, A2, cap2, rfl, h7⟩
mutual
theorem PRep.gen {w : World} {F : Nat → Prop} : ∀ (p : WP.Part) (vs : List Value), PRep w F p vs → GR w F (gp p) vs
  | .mk k t o c ps, vs, h => by
    rw [PRep] at h
    rw [gp, GR]
    obtain ⟨A, cap, h1, h2⟩ := h
    refine ⟨A, cap, by rw [WP.gpL_length]; exact h1, ?_⟩
    rcases h2 with h2 | ⟨b, cells, hA, hFb, hl, hc⟩
    · subst h2; exact .inl (by rw [gpL])
    · exact .inr ⟨b, 0, cells, hA, hFb, LRep.gen ps cells hl, fun j u hj => by rw [Nat.zero_add]; exact hc j u hj⟩
theorem LRep.gen {w : World} {F : Nat → Prop} : ∀ (ps : List WP.Part) (vs : List Value), LRep w F ps vs → GL w F (gpL ps) vs
  | [], vs, h => by rw [LRep] at h; rw [gpL, GL]; exact h
  | p :: ps, vs, h => by
    rw [LRep] at h
    rw [gpL, GL]
    obtain ⟨a, b, h1, h2, h3⟩ := h
    exact ⟨a, b, h1, PRep.gen p a h2, LRep.gen ps b h3⟩
end
/-- What Parse gives, as a slice of parts. -/
theorem GS.of_rep {w : World} {F : Nat → Prop} {ps : List WP.Part} {A : Option Addr} {cap : Nat} (h : ps = [] ∨ ∃ b cells, A = some ⟨b, 0, none⟩ ∧ F b ∧ LRep w F ps cells ∧ ∀ j u, cells[j]? = some u → w.cell? ⟨b, j, none⟩ = some u) : GS w F (.slice A ps.length cap) (gpL ps) := by
  refine ⟨A, cap, by rw [WP.gpL_length], ?_⟩
  rcases h with h | ⟨b, cells, h1, h2, h3, h4⟩
  · subst h; exact .inl (by rw [gpL])
  · exact .inr ⟨b, 0, cells, h1, h2, LRep.gen ps cells h3, fun j u hj => by rw [Nat.zero_add]; exact h4 j u hj⟩
theorem get_of_lt {l : List GP} {k : Nat} (h : k < l.length) : ∃ p, l[k]? = some p ∧ l.drop k = p :: l.drop (k + 1) :=
  ⟨l[k], List.getElem?_eq_getElem h, List.drop_eq_getElem_cons h⟩
end W
end Go.Proofs.YtkceenmlhfkkhaaGreatDoor
