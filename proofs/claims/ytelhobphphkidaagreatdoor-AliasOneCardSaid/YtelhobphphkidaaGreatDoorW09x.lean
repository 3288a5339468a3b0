/- Chapter 9: an int behind the blanks. -/
import Derived.Test.YtelhobphphkidaaGreatDoorW09u
import Derived.Test.YtelhobphphkidaaGreatDoorM9c
import Derived.StillTailTactics
import Derived.Maps.AppendAt
namespace Go.Proofs.YtelhobphphkidaaGreatDoor
open Go.RowKit K
open Go.ChangeMaps (setBlock)
/-- A goal that several ways share. -/
structure Shared (G : Prop) : Prop where
  out : G
theorem merge {G T : Prop} (h : Shared G → T) (g : G) : T := h ⟨g⟩
namespace K
/-- An append whose run is known, at a step of a region that draws. -/
theorem step_append_eq {P : Program} {ops : Array Oper} {o : Oper} {a : Act} {w : World} {K : Act → World → Prop} {Q : Exit → Act → World → Prop} {E : Prop}
    (hg : o.guard = none) (s x : Operand) (t : TypeId) (hop : o.op = Op.call { callee := Callee.builtin Builtin.append, args := #[s, x], argTypes := #[t, t] }) (ty : TypeId) (hty : o.type = ty)
    (v u : Value) (hs : a.eval s = v) (hx : a.eval x = u) {v' : Value} {w' : World} (hr : (Builtin.append_ #[t, t] ty #[v, u]).run P w = .ok v' w') (hK : K (a.put o.dst v') w') :
    if Region.wanted o (yielded ops a.tmps) = true then Oper.wp P o a w K Q else E := by
  have hw : Region.wanted o (yielded ops a.tmps) = true := by simp [Region.wanted, hg]
  rw [if_pos hw]
  subst hty
  unfold Oper.wp
  simp [execOp, hop, resolve, invoke, builtin, hs, hx, hr, Result.andThen]
  exact hK
end K
namespace W
theorem str_add (a b c : List UInt8) (h : a ++ b = c) (ha : a.length ≤ 8000000) (hb : b.length ≤ 8000000) : ∀ U, (Op.stringOp .add ⟨a.toArray⟩ ⟨b.toArray⟩).run Tryz.prog U = .ok (.string ⟨c.toArray⟩) U := fun U => by
  subst h
  have h1 : (((ByteArray.mk a.toArray).size : Int) + ((ByteArray.mk b.toArray).size : Int)) ≤ 9223372036854775807 := by
    simp [ByteArray.size]
    omega
  simpa [Op.stringOp, append_list] using h1
/-- An int is put behind an own row of ints, by way of a row of one. -/
theorem app_int (Y : World) (base n cap : Nat) (A : Option Addr) (M : List Int) (x : Int) (hown : Y.ownsRow base 3 1 (.slice A n cap) n (ivs M)) (hn : n ≤ 200000) (hb : base ≤ Y.heap.size) :
    ∃ A' c' w', (Builtin.append_ #[57, 57] 57 #[.slice A n cap, .slice (some ⟨Y.heap.size, 0, none⟩) 1 1]).run Tryz.prog (Y.alloc (.cells #[.int .i64 x] 3)).drew = .ok (.slice A' (n + 1) c') w' ∧
      w'.ownsRow base 3 1 (.slice A' (n + 1) c') (n + 1) (ivs (M ++ [x])) ∧ (Y.alloc (.cells #[.int .i64 x] 3)).drew.grownBy w' (Value.slice A n cap).ownBlock ∧ ((Value.slice A' (n + 1) c').ownBlock = (Value.slice A n cap).ownBlock ∨ (Value.slice A' (n + 1) c').ownBlock = some (Y.heap.size + 1)) := by
  obtain ⟨i0, hi, hz0, hz1, hz2⟩ : ∃ i : TypeInfo, Tryz.prog.info? 3 = some i ∧ i.zero = some (.int .i64 0) ∧ i.size = 1 ∧ i.bytes = 8 := by
    have h : (Tryz.prog.info? 3).map (fun i => (i.zero, i.size, i.bytes)) = some (some (.int .i64 0), 1, 8) := by kernel_rfl
    obtain ⟨i, h1, h2⟩ := Option.map_eq_some_iff.1 h
    simp only [Prod.mk.injEq] at h2
    exact ⟨i, h1, h2⟩
  obtain ⟨v', w', r1, r2, r3, -, r4⟩ := run_append_own_at (P := Tryz.prog) (Y.alloc (.cells #[.int .i64 x] 3)).drew base 57 57 3 i0 _ 1 8 Tryz.underlying57 hi hz0 hz1 hz2 rfl (by decide) (.slice A n cap) n (ivs M) ((hown.alloc _).drew) ⟨Y.heap.size, 0, none⟩ 1 1 [.int .i64 x] rfl
    (fun j u hj => by
      match j, hj with
      | 0, hj => simp at hj; subst hj; simp [Addr.add])
    (by intro u hu; simp at hu; rw [hu]; rfl) (by unfold maxLen; omega) (by omega) (by simp; omega)
  have hx : ivs M ++ [.int .i64 x] = ivs (M ++ [x]) := by simp [ivs]
  rw [hx] at r2
  obtain ⟨A', c', rfl⟩ : ∃ A' c', v' = .slice A' (n + 1) c' := by
    rcases r2.2 with ⟨rfl, h0⟩ | ⟨q, c, cur, rfl, _⟩
    · omega
    · exact ⟨_, _, rfl⟩
  refine ⟨A', c', w', r1, r2, r3, ?_⟩
  rcases r4 with h | h
  · exact .inl h
  · exact .inr (by rw [h]; simp)
end W
end Go.Proofs.YtelhobphphkidaaGreatDoor
