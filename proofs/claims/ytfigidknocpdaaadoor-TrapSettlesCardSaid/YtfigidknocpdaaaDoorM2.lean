/- Maps with integer keys: the laws for the walk. Nothing of the program is in it. -/
import Derived.Test.YtfigidknocpdaaaDoorM
import Derived.Maps.OwnOps
namespace Go.Proofs.YtfigidknocpdaaaDoor
open Go.RowKit
open Go.Maps (Keyed)
namespace K
def upd {α : Type} (F : Int → Option α) (z : Int) (v : α) : Int → Option α := fun x => if x = z then some v else F x
theorem wpList_imap_store {P : Program} (w : World) {ops : Array Oper} {rest : List Oper} {o : Oper} {a : Act} {Q : Exit → Act → World → Prop}
    (hg : o.guard = none) (m x v : Operand) (t : TypeId) (hop : o.op = Op.mapUpdate t m x v)
    (k e : TypeId) (Kd : Keyed P k) (hk : P.underlying k = some (.int .i64)) (ht : P.underlying t = some (.map k e)) (enc : Value → Option (DataW Unit)) (b n : Nat) (F : Int → Option Value)
    (hm : a.eval m = .map (some b)) (hI : IMap P k enc w b n F) (hn : n < maxLen) (z : Int) (hz : (Lit.int .i64 z).wf = true) (val : Value) (d : DataW Unit) (hx : a.eval x = .int .i64 z) (hv : a.eval v = val) (he : enc val = some d)
    (hK : ∀ w', IMap P k enc w' b (n + 1) (upd F z val) → w.grownBy w' (some b) → wpList P ops Q rest (a.put o.dst undef) w') :
    wpList P ops Q (o :: rest) a w := by
  refine wpList_plain hg fun K' hK' => ?_
  obtain ⟨w', hrun, r1, r2⟩ := hI.store Kd hk ht hn z hz val d he
  unfold Oper.wp
  simp [execOp, hop, hm, hx, hv, hrun, Result.andThen]
  exact hK' _ _ (hK w' r1 r2)
theorem wpList_imap_look {P : Program} (w : World) {ops : Array Oper} {rest : List Oper} {o : Oper} {a : Act} {Q : Exit → Act → World → Prop}
    (hg : o.guard = none) (m x : Operand) (t : TypeId) (c : Bool) (hop : o.op = Op.lookup t m x c)
    (k e : TypeId) (Kd : Keyed P k) (hk : P.underlying k = some (.int .i64)) (ht : P.underlying t = some (.map k e)) (enc : Value → Option (DataW Unit)) (hinj : ∀ v v' d, enc v = some d → enc v' = some d → v = v') (b n : Nat) (F : Int → Option Value)
    (hm : a.eval m = .map (some b)) (hI : IMap P k enc w b n F) {z0 : Value} (hz0 : (zeroValue e).run P w = .ok z0 w) (z : Int) (hz : (Lit.int .i64 z).wf = true) (hx : a.eval x = .int .i64 z)
    (hK : wpList P ops Q rest (a.put o.dst (if c then .tuple #[(F z).getD z0, .bool (F z).isSome] else (F z).getD z0)) w) :
    wpList P ops Q (o :: rest) a w := by
  refine wpList_plain hg fun K' hK' => ?_
  have hrun := hI.look Kd hk ht hinj hz0 z hz c
  unfold Oper.wp
  simp [execOp, hop, hm, hx, hrun, Result.andThen]
  exact hK' _ _ hK
def encI : Value → Option (DataW Unit)
  | .int .i64 z => some (.lit (.int .i64 z))
  | _ => none
theorem encI_inj : ∀ v v' d, encI v = some d → encI v' = some d → v = v' := by
  intro v v' d h1 h2
  unfold encI at h1 h2
  split at h1
  · split at h2
    · rw [← h2] at h1
      simp at h1
      rw [h1]
    · cases h2
  · cases h1
def encT : Value → Option (DataW Unit)
  | .agg ⟨[.int .i64 z, .string s]⟩ => some (.agg [.lit (.int .i64 z), .lit (.string s.data.toList)])
  | _ => none
theorem encT_inj : ∀ v v' d, encT v = some d → encT v' = some d → v = v' := by
  intro v v' d h1 h2
  unfold encT at h1 h2
  split at h1
  · split at h2
    · rw [← h2] at h1
      simp at h1
      obtain ⟨e1, e2⟩ := h1
      rename_i z s _ z' s'
      have : s = s' := by cases s; cases s'; simp_all
      subst this e1
      rfl
    · cases h2
  · cases h1
end K
end Go.Proofs.YtfigidknocpdaaaDoor
