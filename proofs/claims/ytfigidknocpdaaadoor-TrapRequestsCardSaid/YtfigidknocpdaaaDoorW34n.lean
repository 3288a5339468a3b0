/- Chapter 34: Set and Requests of the reference. -/
import Derived.Test.YtfigidknocpdaaaDoorW34m
import Derived.Test.YtfigidknocpdaaaDoorW34h
namespace Go.Proofs.YtfigidknocpdaaaDoor
open Go.RowKit K
namespace P
/-- The reference's Set from the signal n on. -/
def setAt (ts : List Tr) (sig : Int) (a : List UInt8) : Nat → Nat → List Tr
  | 0, _ => []
  | f + 1, n => if (n : Int) = sig then (sig, a) :: setAt ts sig a f (n + 1) else
    match look ts n with
    | some s => ((n : Int), s) :: setAt ts sig a f (n + 1)
    | none => setAt ts sig a f (n + 1)
def setR (ts : List Tr) (sig : Int) (a : List UInt8) : List Tr := setAt ts sig a 21 0
/-- The reference's Requests from the signal n on. -/
def reqRAt (old l : List Tr) (talks : Bool) : Nat → Nat → List (Int × Int)
  | 0, _ => []
  | f + 1, n => if nameL n = [] ∨ n = 9 ∨ n = 19 ∨ dispo l n talks = dispo old n talks then reqRAt old l talks f (n + 1) else ((n : Int), dispo l n talks) :: reqRAt old l talks f (n + 1)
def requestsR (old l : List Tr) (talks : Bool) : List (Int × Int) := reqRAt old l talks 20 1
end P
namespace W
set_option maxHeartbeats 2000000 in
theorem Set_ref_in (v : Value) (ts : List Tr) (sig : Int) (a : List UInt8) (w : World) (hV : TV w v ts) (hn : ts.length ≤ 1000000) (h0 : 0 ≤ sig) (h1 : sig ≤ 20) :
    Calls Tryd.prog 22 #[v, .int .i64 sig, .string ⟨a.toArray⟩] w (TPost w (P.setR ts sig a)) := by
  obtain ⟨i0, hi, hz0, hz1, hz2⟩ := info_parts infoTrap
  have HF := Lib.hid (fun z w' (hb : Below w.heap.size w w') => find_ref v ts z w' (hV.below hb) hn)
  obtain ⟨A, c, rfl, hc1, hc2, -, hT⟩ := hV
  obtain ⟨R, hR⟩ : ∃ R, P.setR ts sig a = R := ⟨_, rfl⟩
  rw [hR]
  have HR := Lib.hid (show P.setAt ts sig a 21 0 = R from hR)
  have HT := Lib.hid hT
  have s0 : (sig < 0) = False := eq_false (by omega)
  have s1 : (20 < sig) = False := eq_false (by omega)
  clear hR hT
  go_enter Tryd.func22, Tryd.ntmps22
  go_wp2
  go_loopw [7, 8] (fun o i wr => ∃ (k : Nat) (acc : List Tr), k ≤ 21 ∧ i = .int .i64 k ∧ acc.length ≤ k ∧ wr.ownsRow w.heap.size 30 2 o acc.length (tcells acc) ∧ Below w.heap.size w wr ∧ Hid (acc ++ P.setAt ts sig a (21 - k) k = R)) (fun _ i _ => 21 - (intOf i).toNat)
  case atStart => exact ⟨0, [], by omega, rfl, by simp, World.ownsRow_nil _ _ _ _, Below.refl _ _, by show _ = _; simpa using HR.out⟩
  case round =>
    obtain ⟨k, acc, hk, rfl, hac, hown, hbw, HN⟩ := hrel
    by_cases hlt : k < 21
    · have g0 : ((k : Int) ≤ 20) = True := eq_true (by omega)
      have HST := Lib.hid (show P.setAt ts sig a (21 - k) k = if (k : Int) = sig then (sig, a) :: P.setAt ts sig a (21 - (k + 1)) (k + 1) else
        match P.look ts k with
        | some s => ((k : Int), s) :: P.setAt ts sig a (21 - (k + 1)) (k + 1)
        | none => P.setAt ts sig a (21 - (k + 1)) (k + 1) by rw [show 21 - k = (21 - (k + 1)) + 1 by omega, P.setAt])
      have HFK := Lib.hid (HF.out (k : Int) wr hbw)
      have hsz := hbw.size
      have HB := Lib.hid hbw
      have HO := Lib.hid hown
      have HTW := Lib.hid (HT.out.below hbw)
      obtain ⟨f, hf⟩ : ∃ f, P.find ts k = f := ⟨_, rfl⟩
      by_cases hq : (k : Int) = sig
      · have e1 : ((k : Int) == sig) = true := by simp [hq]
        have HG := Lib.hid (show (acc ++ [(sig, a)]) ++ P.setAt ts sig a (21 - (k + 1)) (k + 1) = R by rw [← HN.out, HST.out, if_pos hq]; simp)
        have HSN := Lib.hid (tcells_snoc acc (sig, a))
        rw [hf] at HFK
        clear hq hbw hf HST HN
        go_wp2_with fail
        refine HFK.out.mono ?_
        rintro e w' ⟨rfl, rfl⟩
        go_wp2_with (at_builtin; refine wpList_append_own _ rfl _ _ 26 rfl w.heap.size 30 i0 (.agg #[.int .i64 0, .string ⟨#[]⟩]) 2 24 Tryd.underlying26 hi hz0 hz1 hz2 rfl (by decide) _ _ _ rfl (hown.alloc _) ⟨wr.heap.size, 0, none⟩ 1 1 [.int .i64 sig, .string ⟨a.toArray⟩] rfl rfl (pair_news1 wr _ _ _) (pair_one _ _) (by unfold maxLen; omega) (by omega) (by simp; omega) ?_)
        intro v2 w2 hown2 hgrow2 _
        have hb2 : Below w.heap.size w w2 := (HB.out.alloc HB.out.size _).grown hgrow2 (by have := HB.out.size; simp; omega) (fun k hk => (HO.out.lt k hk).1)
        rw [HSN.out] at hown2
        clear hown hgrow2
        go_wp2
        go_roundw
        case rel => exact ⟨k + 1, acc ++ [(sig, a)], by omega, by go_num, by simp; omega, by simpa using hown2, hb2, HG.out⟩
        case measure => simp [intOf]; omega
      · have e1 : ((k : Int) == sig) = false := by simp [hq]
        rcases P.look_find ts k with ⟨ha, hb⟩ | ⟨j, ha, hj, hc, hb⟩
        · have HG := Lib.hid (show acc ++ P.setAt ts sig a (21 - (k + 1)) (k + 1) = R by rw [← HN.out, HST.out, if_neg hq, hb])
          rw [ha] at HFK
          clear hq hbw hf HST HN ha hb hown
          go_wp2_with fail
          refine HFK.out.mono ?_
          rintro e w' ⟨rfl, rfl⟩
          go_wp2
          go_roundw
          case rel => exact ⟨k + 1, acc, by omega, by go_num, by omega, HO.out, HB.out, HG.out⟩
          case measure => simp [intOf]; omega
        · obtain ⟨b, off, rfl, hbl, hc0, hc1'⟩ := HTW.out.get hj
          obtain ⟨⟨z, s⟩, ht⟩ : ∃ t, ts.getD j (0, []) = t := ⟨_, rfl⟩
          rw [ht] at hb hc hc0 hc1'
          simp only at hb hc hc0 hc1'
          subst hc
          have HG := Lib.hid (show (acc ++ [((k : Int), s)]) ++ P.setAt ts sig a (21 - (k + 1)) (k + 1) = R by rw [← HN.out, HST.out, if_neg hq, hb]; simp)
          have HSN := Lib.hid (tcells_snoc acc ((k : Int), s))
          have j0 : (0 : Int) ≤ (j : Int) := by omega
          rw [ha] at HFK
          clear hq hbw hf HST HN ha hb ht HTW
          go_wp2_with fail
          refine HFK.out.mono ?_
          rintro e w' ⟨rfl, rfl⟩
          go_wp2_with (at_builtin; refine wpList_append_own _ rfl _ _ 26 rfl w.heap.size 30 i0 (.agg #[.int .i64 0, .string ⟨#[]⟩]) 2 24 Tryd.underlying26 hi hz0 hz1 hz2 rfl (by decide) _ _ _ rfl (hown.alloc _) ⟨wr.heap.size, 0, none⟩ 1 1 [.int .i64 (k : Int), .string ⟨s.toArray⟩] rfl rfl (pair_news1 wr _ _ _) (pair_one _ _) (by unfold maxLen; omega) (by omega) (by simp; omega) ?_)
          intro v2 w2 hown2 hgrow2 _
          have hb2 : Below w.heap.size w w2 := (HB.out.alloc HB.out.size _).grown hgrow2 (by have := HB.out.size; simp; omega) (fun k hk => (HO.out.lt k hk).1)
          rw [HSN.out] at hown2
          clear hown hgrow2
          go_wp2
          go_roundw
          case rel => exact ⟨k + 1, acc ++ [((k : Int), s)], by omega, by go_num, by simp; omega, by simpa using hown2, hb2, HG.out⟩
          case measure => simp [intOf]; omega
    · have HG := Lib.hid (show acc = R by have := HN.out; rw [show 21 - k = 0 by omega] at this; simpa [P.setAt] using this)
      have HB := Lib.hid hbw
      have HO := Lib.hid hown
      have g0 : ((k : Int) ≤ 20) = False := eq_false (by omega)
      clear hown hbw hlt
      go_wp2
      go_ret
      exact ⟨_, rfl, by rw [← HG.out]; exact HO.out, HB.out⟩

theorem Set_ref_out (v : Value) (ts : List Tr) (sig : Int) (a : List UInt8) (w : World) (hV : TV w v ts) (h : sig < 0 ∨ 20 < sig) :
    Calls Tryd.prog 22 #[v, .int .i64 sig, .string ⟨a.toArray⟩] w fun e w' => e = .returned v ∧ w = w' := by
  obtain ⟨A, c, rfl, hc1, hc2, -, hT⟩ := hV
  by_cases h0 : sig < 0
  · have s0 : (sig < 0) = True := eq_true h0
    clear h h0 hT
    go_enter Tryd.func22, Tryd.ntmps22
    go_wp2
    go_ret
    exact ⟨rfl, rfl⟩
  · have s0 : (sig < 0) = False := eq_false h0
    have s1 : (20 < sig) = True := eq_true (by omega)
    clear h h0 hT
    go_enter Tryd.func22, Tryd.ntmps22
    go_wp2
    go_ret
    exact ⟨rfl, rfl⟩
end W
end Go.Proofs.YtfigidknocpdaaaDoor
