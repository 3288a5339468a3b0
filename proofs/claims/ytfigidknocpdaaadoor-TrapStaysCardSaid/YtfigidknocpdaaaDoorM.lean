/- Maps with integer keys that the call itself makes, as functions from keys to values. Nothing of the program is in it. -/
import Derived.Test.YtfigidknocpdaaaDoorK
import Derived.Maps.Own
import Derived.Maps.Views
import Derived.Below
namespace Go.Proofs.YtfigidknocpdaaaDoor
open Go.RowKit Go.ChangeMaps Go.MapKept
open Go.WideElems (Fit rd rg pl rd_val elemAt)
open Go.Maps (Keyed)
namespace K
/-- How an element reads: one datum for each value that is met. -/
def elemR (enc : Value → Option (DataW Unit)) (v : Value) : Option (DataW Unit × List MemPlace) := (enc v).map fun d => (d, [])
/-- Block b is a map of at most n entries; at the key z it holds F z. -/
def IMap (P : Program) (k : TypeId) (enc : Value → Option (DataW Unit)) (w : World) (b n : Nat) (F : Int → Option Value) : Prop :=
  ∃ D : DataW Unit, w.ownsMap P k (elemR enc) b n D ∧ Maps.IsMap D ∧ ∀ z : Int, (F z = none ∧ ∀ zd, D.atKey (.int .i64 z) zd = zd) ∨ ∃ v d, F z = some v ∧ enc v = some d ∧ ∀ zd, D.atKey (.int .i64 z) zd = d
theorem IMap.made (w : World) (P : Program) (k : TypeId) (enc : Value → Option (DataW Unit)) : IMap P k enc (w.alloc (.map #[] 0)) w.heap.size 0 (fun _ => none) :=
  ⟨_, World.ownsMap_made w P k _, ⟨_, rfl⟩, fun z => .inl ⟨rfl, fun zd => WideAt.atKey_none zd (by simp)⟩⟩
theorem IMap.mono {P : Program} {k : TypeId} {enc : Value → Option (DataW Unit)} {w : World} {b n m : Nat} {F : Int → Option Value} (h : IMap P k enc w b n F) (hm : n ≤ m) : IMap P k enc w b m F := by
  obtain ⟨D, h1, h2⟩ := h
  exact ⟨D, h1.mono hm, h2⟩
theorem IMap.below {P : Program} {k : TypeId} {enc : Value → Option (DataW Unit)} {w w' : World} {b n : Nat} {F : Int → Option Value} (h : IMap P k enc w b n F) (hb : Below w.heap.size w w') : IMap P k enc w' b n F := by
  obtain ⟨D, h1, h2⟩ := h
  have hlt := h1.lt
  obtain ⟨es, clock, hh, r⟩ := h1
  exact ⟨D, ⟨es, clock, (hb.block b hlt).trans hh, r⟩, h2⟩
theorem IMap.lt {P : Program} {k : TypeId} {enc : Value → Option (DataW Unit)} {w : World} {b n : Nat} {F : Int → Option Value} (h : IMap P k enc w b n F) : b < w.heap.size := by
  obtain ⟨D, h1, _⟩ := h
  exact h1.lt
theorem IMap.kept {P : Program} {k : TypeId} {enc : Value → Option (DataW Unit)} {w w' : World} {b n : Nat} {F : Int → Option Value} {row : Option Nat} (h : IMap P k enc w b n F) (hg : w.grownBy w' row) (hne : some b ≠ row) : IMap P k enc w' b n F := by
  obtain ⟨D, h1, h2⟩ := h
  exact ⟨D, h1.kept hg hne, h2⟩
theorem two_data {D : DataW Unit} {kl : Lit} {d : DataW Unit} (h1 : ∀ zd, D.atKey kl zd = zd) (h2 : ∀ zd, D.atKey kl zd = d) : False := by
  have e1 := (h1 .nil).symm.trans (h2 .nil)
  have e2 := (h1 (.lit (.bool true))).symm.trans (h2 _)
  rw [← e1] at e2
  cases e2
/-- 'm[k]' and 'v, ok := m[k]'. -/
theorem IMap.look {P : Program} {k t e : TypeId} {enc : Value → Option (DataW Unit)} {w : World} {b n : Nat} {F : Int → Option Value} (h : IMap P k enc w b n F) (K : Keyed P k) (hk : P.underlying k = some (.int .i64)) (ht : P.underlying t = some (.map k e))
    (hinj : ∀ v v' d, enc v = some d → enc v' = some d → v = v') {z0 : Value} (hz : (zeroValue e).run P w = .ok z0 w) (z : Int) (hw : (Lit.int .i64 z).wf = true) (c : Bool) :
    (Instr.lookup t (.map (some b)) (.int .i64 z) c).run P w = .ok (if c then .tuple #[(F z).getD z0, .bool (F z).isSome] else (F z).getD z0) w := by
  obtain ⟨D, ⟨es, clock, hb, Fi, _, rfl⟩, _, h2⟩ := h
  rcases Maps.fit_look c K ht hz hb Fi (Maps.keyOf_int_mk hk hw) with ⟨hrun, _, hat⟩ | ⟨e0, y, _, _, hrun, hRv, hat, _⟩
  · rcases h2 z with ⟨f1, _⟩ | ⟨v, d, _, _, f3⟩
    · rw [hrun, f1]; rfl
    · exact (two_data hat f3).elim
  · rcases h2 z with ⟨_, f2⟩ | ⟨v, d, f1, f2, f3⟩
    · exact (two_data f2 hat).elim
    · have hd : d = y.1 := (f3 .nil).symm.trans (hat .nil)
      have hv : v = e0.val := by
        unfold elemR at hRv
        cases he : enc e0.val with
        | none => rw [he] at hRv; cases hRv
        | some d' =>
          rw [he] at hRv
          simp at hRv
          refine hinj _ _ d f2 ?_
          rw [he, hd, ← hRv]
      rw [hrun, f1, hv]; rfl
/-- 'm[k] = v'. -/
theorem IMap.store {P : Program} {k t e : TypeId} {enc : Value → Option (DataW Unit)} {w : World} {b n : Nat} {F : Int → Option Value} (h : IMap P k enc w b n F) (K : Keyed P k) (hk : P.underlying k = some (.int .i64)) (ht : P.underlying t = some (.map k e))
    (hn : n < maxLen) (z : Int) (hw : (Lit.int .i64 z).wf = true) (v : Value) (d : DataW Unit) (hv : enc v = some d) :
    ∃ w', (Instr.mapUpdate t (.map (some b)) (.int .i64 z) v).run P w = .ok () w' ∧ IMap P k enc w' b (n + 1) (fun x => if x = z then some v else F x) ∧ w.grownBy w' (some b) := by
  obtain ⟨D, h1, hM, h2⟩ := h
  obtain ⟨w', r1, r2, r3⟩ := h1.update K ht hn (Maps.keyOf_int_mk hk hw) (d := d) (ps := []) (val := v) (by simp [elemR, hv])
  refine ⟨w', r1, ⟨_, r2, ?_, fun x => ?_⟩, r3⟩
  · obtain ⟨es, clock, _, _, _, hD⟩ := r2
    exact ⟨_, hD⟩
  · by_cases hx : x = z
    · subst hx
      right
      exact ⟨v, d, by simp, hv, fun zd => Maps.atKey_put_same hM (by trivial) d zd⟩
    · have hne : (Lit.int .i64 x) ≠ (Lit.int .i64 z) := by intro e; injection e with _ e; exact hx e
      rcases h2 x with ⟨f1, f2⟩ | ⟨u, du, f1, f2, f3⟩
      · left
        exact ⟨by simp [hx, f1], fun zd => by rw [Maps.atKey_put_other hne]; exact f2 zd⟩
      · right
        exact ⟨u, du, by simp [hx, f1], f2, fun zd => by rw [Maps.atKey_put_other hne]; exact f3 zd⟩
end K
end Go.Proofs.YtfigidknocpdaaaDoor
