/- Built-in commands: what the row's conditions give the walk: the library's bound and the table of signals' names. -/
import Derived.Test.YtcbebkeakkahgaaGreatDoorW38f
import Derived.Test.YtcbebkeakkahgaaGreatDoorRows
import Derived.Lib.LaidTab
import Derived.Shelf.Vars
import Derived.Stop.LaidErr
import Derived.LaidSub
namespace Go.Proofs.YtcbebkeakkahgaaGreatDoor
open Go.RowKit K
namespace K
theorem cells_of_strs {H : Type} {enc : TypeId × Value → H} {P : Program} {w : World} {base : Nat} {sp : Nat → Bool} {held : Bool} {fuel : Nat} {t e : TypeId} {n : Nat} {cs : List Value} {zs : List (List UInt8)} {p : List MemPlace}
    (ht : P.underlying t = some (.array n e)) (he : P.underlying e = some .string) (hce : P.cellsOf e = 1) (hct : P.cellsOf t = n)
    (h : DataW.trod enc P w base sp held fuel t cs = some (.agg (zs.map fun z => .lit (.string z)), p)) : cs = zs.map fun z => Value.string ⟨z.toArray⟩ := by
  cases fuel with
  | zero => simp [DataW.trod] at h
  | succ fuel =>
    simp only [DataW.trod, ht, hce, hct, Nat.mul_one] at h
    split at h
    · rename_i hl
      obtain ⟨xs, hm, hx⟩ := Option.map_eq_some_iff.1 h
      have hxs : xs.map (·.1) = zs.map fun z => (DataW.lit (.string z) : DataW H) := by
        have := congrArg Prod.fst hx
        simpa using this
      have hxl : xs.length = n := by simpa using Lib.mapM_length hm
      have hzl : zs.length = n := by
        have := congrArg List.length hxs
        simp at this
        omega
      apply List.ext_getElem?
      intro i
      by_cases hi : i < n
      · obtain ⟨b, hb, hf⟩ := Lib.mapM_at hm i i (by simp [hi])
        obtain ⟨z, hc, rfl, _⟩ := DataW.trod_string he hf
        have h1 : cs[i]? = some (.string z) := by
          have := congrArg (·[0]?) hc
          simpa [List.getElem?_take, List.getElem?_drop] using this
        have h2 : (xs.map (·.1))[i]? = some (DataW.lit (.string z.data.toList) : DataW H) := by simp [hb]
        rw [hxs] at h2
        simp only [List.getElem?_map, Option.map_eq_some_iff, DataW.lit.injEq, Lit.string.injEq] at h2
        obtain ⟨z', hz', rfl⟩ := h2
        simp [h1, hz']
      · rw [List.getElem?_eq_none (by omega), List.getElem?_eq_none (by simp; omega)]
    · cases h
end K
namespace W
def sigNames : List (List UInt8) := [[], [72, 85, 80], [73, 78, 84], [81, 85, 73, 84], [84, 84, 73, 78], [84, 84, 79, 85], [], [], [], [75, 73, 76, 76], [85, 83, 82, 49], [], [85, 83, 82, 50], [80, 73, 80, 69], [65, 76, 82, 77], [84, 69, 82, 77], [], [67, 72, 76, 68], [67, 79, 78, 84], [83, 84, 79, 80], [84, 83, 84, 80]]
theorem plain_of {P : Program} {l : List (String × DataW Unit)} {w : World} (h : laidMetH P l w) (hn : (l.filter fun x => x.2.handleName?.isNone) = l) : laidMet P l w := by
  have := (laidMetH_iff.1 h).1
  rw [hn] at this
  exact this
theorem gNames : Tryz.prog.globalNamed "jobshell/signal.names" = some 0 := by kernel_rfl
theorem laidNames : (Rows.laid_jobshell_signal_names : DataW Unit) = .agg (sigNames.map fun z => .lit (.string z)) := by kernel_rfl
theorem noHandle : (Rows.builtinKindsRow.laid.filter fun x => x.2.handleName?.isNone) = Rows.builtinKindsRow.laid := by kernel_rfl
theorem names_of {W : World} {rest : List (String × DataW Unit)} (h : laidMet Tryz.prog (("jobshell/signal.names", Rows.laid_jobshell_signal_names) :: rest) W) : ∃ t fr, W.heap[0]? = some (.cells namesV t fr) := by
  obtain ⟨ps, ⟨g', t', cs, fuel, p, q, hg', ht', hvar, hd, _, _⟩, _⟩ := h
  obtain rfl := Option.some.inj (gNames.symm.trans hg')
  obtain rfl : t' = 168 := Option.some.inj (ht'.symm.trans (by kernel_rfl))
  rw [laidNames] at hd
  have hcs := K.cells_of_strs (zs := sigNames) Tryz.underlying168 Tryz.underlying9 (by kernel_rfl) (by kernel_rfl) hd
  have h1 : W.var? Tryz.prog "jobshell/signal.names" = some namesV := by
    have hcn : cs = namesV := by
      rw [← Array.toArray_toList (xs := cs), hcs]
      rfl
    rw [hvar, hcn]
  simp only [World.var?, gNames, Option.bind_some] at h1
  split at h1
  · rename_i cs t fr hc
    injection h1 with h1
    subst h1
    exact ⟨t, fr, hc⟩
  · cases h1
theorem env_of {W : World} (hL : laidMetH Tryz.prog Rows.builtinKindsRow.laid W) (hsh : W.ShapedOpen Tryz.prog) : Env W := by
  have h := plain_of hL noHandle
  have h3 : laidMet Tryz.prog (("jobshell/signal.names", Rows.laid_jobshell_signal_names) :: _) W := h.tail.tail.tail.tail.tail.tail
  exact ⟨_root_.Go.Proofs.cell_of_shapedOpen_int (g := 2) (t := 3) (zero := #[.int .i64 0]) hsh (of_decide_eq_true (by kernel_rfl)) (by kernel_rfl) rfl (by kernel_rfl) (by kernel_rfl) Tryz.underlying3, names_of h3⟩
end W
end Go.Proofs.YtcbebkeakkahgaaGreatDoor
