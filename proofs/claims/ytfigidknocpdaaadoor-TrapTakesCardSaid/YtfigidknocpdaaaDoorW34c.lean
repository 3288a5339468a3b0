/- Chapter 34: Reset and Sub of trap and of its reference. -/
import Derived.Test.YtfigidknocpdaaaDoorW34
import Derived.Test.YtfigidknocpdaaaDoorT
namespace Go.Proofs.YtfigidknocpdaaaDoor
open Go.RowKit K
namespace P
def resetB (sig : Int) (t : Tr) : Bool := t.1 != sig
def subB (t : Tr) : Bool := t.1 != 0 && t.2 == []
def reset (ts : List Tr) (sig : Int) : List Tr := ts.filter (resetB sig)
def sub (ts : List Tr) : List Tr := ts.filter subB
end P
namespace W
theorem infoTrap : (Tryd.prog.info? 30).map (fun i => (i.zero, i.size, i.bytes)) = some (some (.agg #[.int .i64 0, .string ⟨#[]⟩]), 2, 24) := by kernel_rfl
/-- A list of pairs of the call's own comes back. -/
def TPost (w : World) (ts : List Tr) (e : Ending) (w' : World) : Prop := ∃ v, e = .returned v ∧ w'.ownsRow w.heap.size 30 2 v ts.length (tcells ts) ∧ Below w.heap.size w w'

set_option maxHeartbeats 1000000 in
theorem Reset_any (v : Value) (ts : List Tr) (sig : Int) (w : World) (hV : TV w v ts) (hn : ts.length ≤ 1000000) :
    Calls Tryd.prog 23 #[v, .int .i64 sig] w (TPost w (P.reset ts sig)) := by
  obtain ⟨i0, hi, hz0, hz1, hz2⟩ := info_parts infoTrap
  obtain ⟨A, c, rfl, hc1, hc2, -, hT⟩ := hV
  obtain ⟨R, hR⟩ : ∃ R, P.reset ts sig = R := ⟨_, rfl⟩
  rw [hR]
  have HR := Lib.hid (show ts.filter (P.resetB sig) = R from hR)
  have HT := Lib.hid hT
  clear hR hT
  go_enter Tryd.func23, Tryd.ntmps23
  go_wp2
  go_loopw [5, 10] (fun o i wr => ∃ (k : Nat) (acc : List Tr), k ≤ ts.length ∧ i = .int .i64 k ∧ acc.length ≤ k ∧ wr.ownsRow w.heap.size 30 2 o acc.length (tcells acc) ∧ Below w.heap.size w wr ∧ Hid (acc ++ (ts.drop k).filter (P.resetB sig) = R)) (fun _ i _ => ts.length - (intOf i).toNat)
  case atStart => exact ⟨0, [], by omega, rfl, by simp, World.ownsRow_nil _ _ _ _, Below.refl _ _, by show _ = _; simpa using HR.out⟩
  case round =>
    obtain ⟨k, acc, hk, rfl, hac, hown, hbw, HN⟩ := hrel
    by_cases hlt : k < ts.length
    · obtain ⟨b, off, rfl, hb, hc0, hc1'⟩ := (HT.out.below hbw).get hlt
      have HD := Lib.hid (drop_getT hlt)
      obtain ⟨⟨z, s⟩, ht⟩ : ∃ t, ts.getD k (0, []) = t := ⟨_, rfl⟩
      rw [ht] at HD hc0 hc1'
      simp only at hc0 hc1'
      clear ht
      have hsz := hbw.size
      have HB := Lib.hid hbw
      have HO := Lib.hid hown
      by_cases hq : z = sig
      · have e1 : (z != sig) = false := by simp [hq]
        have HF := Lib.hid (show acc ++ (ts.drop (k + 1)).filter (P.resetB sig) = R by rw [← HN.out, HD.out, List.filter_cons_of_neg (by simp [P.resetB, hq])])
        clear hq hown hbw
        go_wp2
        go_roundw
        case rel => exact ⟨k + 1, acc, by omega, by go_num, by omega, HO.out.alloc _, HB.out.alloc HB.out.size _, HF.out⟩
        case measure => simp [intOf]; omega
      · have e1 : (z != sig) = true := by simp [hq]
        have HF := Lib.hid (show (acc ++ [(z, s)]) ++ (ts.drop (k + 1)).filter (P.resetB sig) = R by rw [← HN.out, HD.out, List.filter_cons_of_pos (by simp [P.resetB, hq])]; simp)
        have HSN := Lib.hid (tcells_snoc acc (z, s))
        clear hq hbw
        go_wp2_with (at_builtin; refine wpList_append_own _ rfl _ _ 26 rfl w.heap.size 30 i0 (.agg #[.int .i64 0, .string ⟨#[]⟩]) 2 24 Tryd.underlying26 hi hz0 hz1 hz2 rfl (by decide) _ _ _ rfl ((hown.alloc _).alloc _) ⟨wr.heap.size + 1, 0, none⟩ 1 1 [.int .i64 z, .string ⟨s.toArray⟩] rfl rfl (pair_news wr _ _ _ _) (pair_one _ _) (by unfold maxLen; omega) (by omega) (by simp; omega) ?_)
        intro v2 w2 hown2 hgrow2 _
        have hb2 : Below w.heap.size w w2 := ((HB.out.alloc HB.out.size _).alloc (by have := HB.out.size; simp; omega) _).grown hgrow2 (by have := HB.out.size; simp; omega) (fun k hk => (HO.out.lt k hk).1)
        rw [HSN.out] at hown2
        clear hown hgrow2
        go_wp2
        go_roundw
        case rel => exact ⟨k + 1, acc ++ [(z, s)], by omega, by go_num, by simp; omega, by simpa using hown2, hb2, HF.out⟩
        case measure => simp [intOf]; omega
    · have HF := Lib.hid (show acc = R by have := HN.out; rw [List.drop_eq_nil_of_le (by omega)] at this; simpa using this)
      have HB := Lib.hid hbw
      have HO := Lib.hid hown
      clear hown hbw
      go_wp2
      go_ret
      exact ⟨_, rfl, by rw [← HF.out]; exact HO.out, HB.out⟩
end W
end Go.Proofs.YtfigidknocpdaaaDoor
