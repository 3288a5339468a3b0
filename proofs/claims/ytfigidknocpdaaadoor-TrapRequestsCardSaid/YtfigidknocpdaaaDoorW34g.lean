/- Chapter 34: the dispositions as a map. -/
import Derived.Test.YtfigidknocpdaaaDoorW34d
import Derived.Test.YtfigidknocpdaaaDoorP34b
import Derived.Test.YtfigidknocpdaaaDoorM2
import Derived.Carry
namespace Go.Proofs.YtfigidknocpdaaaDoor
open Go.RowKit K
namespace P
def five : List Int := [3, 4, 5, 15, 20]
/-- The dispositions by default. -/
def disp0 (talks : Bool) : Int → Option Int := if talks then five.foldl (fun G z => upd G z 1) (upd (fun _ => none) 2 2) else fun _ => none
def dispOf (t : Tr) : Int := if t.2 = [] then 1 else 2
def disp (ts : List Tr) (talks : Bool) : Int → Option Int := ts.foldl (fun G t => upd G t.1 (dispOf t)) (disp0 talks)
theorem disp_step (ts : List Tr) (talks : Bool) (k : Nat) (h : k < ts.length) : disp (ts.take (k + 1)) talks = upd (disp (ts.take k) talks) (ts.getD k (0, [])).1 (dispOf (ts.getD k (0, []))) := by
  have e : ts.take (k + 1) = ts.take k ++ [ts.getD k (0, [])] := by rw [List.take_succ_eq_append_getElem h, List.getD_eq_getElem?_getD, List.getElem?_eq_getElem h]; rfl
  unfold disp
  rw [e, List.foldl_append]
  rfl
theorem five_step (k : Nat) (h : k < 5) (G : Int → Option Int) : (five.take (k + 1)).foldl (fun G z => upd G z 1) G = upd ((five.take k).foldl (fun G z => upd G z 1) G) (five.getD k 0) 1 := by
  have h' : k < five.length := h
  have e : five.take (k + 1) = five.take k ++ [five.getD k 0] := by rw [List.take_succ_eq_append_getElem h', List.getD_eq_getElem?_getD, List.getElem?_eq_getElem h']; rfl
  rw [e, List.foldl_append]
  rfl
theorem five_in (k : Nat) (h : k < 5) : 0 ≤ five.getD k 0 ∧ five.getD k 0 ≤ 20 := by
  have : ∀ k, k < 5 → 0 ≤ five.getD k 0 ∧ five.getD k 0 ≤ 20 := by decide
  exact this k h
end P
namespace K
/-- A function to integers as one to values. -/
def valF (G : Int → Option Int) : Int → Option Value := fun z => (G z).map (.int .i64)
theorem valF_upd (G : Int → Option Int) (z v : Int) : valF (upd G z v) = upd (valF G) z (.int .i64 v) := by
  funext x
  unfold valF upd
  split <;> rfl
theorem upd_upd {α : Type} (F : Int → Option α) (z : Int) (u v : α) : upd (upd F z u) z v = upd F z v := by
  funext x
  unfold upd
  split <;> rfl
theorem wf64 {z : Int} (h0 : -9223372036854775808 ≤ z) (h1 : z ≤ 9223372036854775807) : (Lit.int .i64 z).wf = true := WalkArith.wf_i64 (by omega)
end K
namespace W
theorem keyInt : Maps.Keyed Tryd.prog 3 := Maps.int_keyed Tryd.underlying3
/-- A map of integers of the call's own comes back. -/
def MPost (w : World) (m : Nat) (G : Int → Option Int) (e : Ending) (w' : World) : Prop := ∃ b n, e = .returned (.map (some b)) ∧ w.heap.size ≤ b ∧ n ≤ m ∧ IMap Tryd.prog 3 encI w' b n (valF G) ∧ Below w.heap.size w w'

set_option maxHeartbeats 2000000 in
theorem dispositions_any (v : Value) (ts : List Tr) (talks : Bool) (w : World) (hV : TV w v ts) (hn : ts.length ≤ 1000) (hz : ∀ t ∈ ts, 0 ≤ t.1 ∧ t.1 ≤ 20) :
    Calls Tryd.prog 40 #[v, .bool talks] w (MPost w 3000 (P.disp ts talks)) := by
  obtain ⟨A, c, rfl, hc1, hc2, -, hT⟩ := hV
  have HT := Lib.hid hT
  have HZ := Lib.hid hz
  obtain ⟨R, hR⟩ : ∃ R, P.disp ts talks = R := ⟨_, rfl⟩
  rw [hR]
  have HR := Lib.hid hR
  clear hT hz hR
  obtain ⟨x0, q0⟩ : ∃ x : World, x = w.alloc (.map #[] 0) := ⟨_, rfl⟩
  have hI0 : IMap Tryd.prog 3 encI x0 w.heap.size 0 (valF (fun _ => none)) := by rw [q0]; exact IMap.made w _ _ _
  have hb0 : Below w.heap.size w x0 := by rw [q0]; exact (Below.refl _ _).alloc (Nat.le_refl _) _
  have Q0 := Lib.hid q0
  have hmm := @run_makeMap Tryd.prog
  clear q0
  cases talks with
  | true =>
    have hsz0 := hI0.lt
    go_enter Tryd.func40, Tryd.ntmps40
    go_wp2_with (at_mapUpdate; rw [← Q0.out]; refine wpList_imap_store _ rfl _ _ _ 58 rfl 3 3 keyInt Tryd.underlying3 Tryd.underlying58 encI w.heap.size 0 _ rfl hI0 (by unfold maxLen; omega) 2 (by decide) (.int .i64 2) _ rfl rfl rfl ?_)
    intro w1 hI1 hgrow1
    have HB1 := Lib.hid (hb0.grown hgrow1 hb0.size (fun k hk => by injection hk with hk; omega))
    obtain ⟨x1, q1⟩ : ∃ x : World, x = w1.alloc (.cells #[.int .i64 3, .int .i64 4, .int .i64 5, .int .i64 15, .int .i64 20] 3) := ⟨_, rfl⟩
    have Q1 := Lib.hid q1
    have hy1 : Below w1.heap.size w1 x1 := by rw [q1]; exact (Below.refl _ _).alloc (Nat.le_refl _) _
    have HI1 := Lib.hid (show IMap Tryd.prog 3 encI x1 w.heap.size 1 (valF (upd (fun _ => none) 2 2)) by rw [valF_upd]; exact hI1.below hy1)
    have HBx1 := Lib.hid (btr HB1.out hy1)
    have HROW := Lib.hid (show x1.heap[w1.heap.size]? = some (.cells #[.int .i64 3, .int .i64 4, .int .i64 5, .int .i64 15, .int .i64 20] 3 (0, 0)) by rw [q1]; exact heap_alloc_new w1 _)
    have hlt1 : w1.heap.size < x1.heap.size := by rw [q1]; simp
    have hwl : w.heap.size < w1.heap.size := hI1.lt
    clear hI1 hgrow1 q1 hy1 hI0
    go_wp2
    rw [← Q1.out]
    go_loopw [15] (fun i wr => ∃ k : Nat, k ≤ 5 ∧ i = .int .i64 k ∧ IMap Tryd.prog 3 encI wr w.heap.size (1 + k) (valF ((P.five.take k).foldl (fun G z => upd G z 1) (upd (fun _ => none) 2 2))) ∧ wr.heap[w1.heap.size]? = some (.cells #[.int .i64 3, .int .i64 4, .int .i64 5, .int .i64 15, .int .i64 20] 3 (0, 0)) ∧ Below w.heap.size w wr) (fun i _ => 5 - (intOf i).toNat)
    case atStart => exact ⟨0, by omega, rfl, HI1.out, HROW.out, HBx1.out⟩
    case round =>
      obtain ⟨k, hk, rfl, hI, hrow, hbw⟩ := hrel
      by_cases hlt : k < 5
      · have HST := Lib.hid (P.five_step k hlt (upd (fun _ => none) 2 2))
        obtain ⟨z0, z1⟩ := P.five_in k hlt
        have hcell : wr.cell? ⟨w1.heap.size, k, none⟩ = some (.int .i64 (P.five.getD k 0)) := by
          rw [Lib.cell_of_heap hrow]
          have hc : k = 0 ∨ k = 1 ∨ k = 2 ∨ k = 3 ∨ k = 4 := by omega
          rcases hc with rfl | rfl | rfl | rfl | rfl <;> rfl
        generalize P.five.getD k 0 = z at *
        have hwf : (Lit.int .i64 z).wf = true := wf64 (by omega) (by omega)
        have HB := Lib.hid hbw
        have HRW := Lib.hid hrow
        have hrlt : w1.heap.size < wr.heap.size := (Array.getElem?_eq_some_iff.1 hrow).1
        have f5 : ((k : Int) < 5) = True := eq_true (by omega)
        clear hbw hrow
        go_wp2_with (at_mapUpdate; refine wpList_imap_store _ rfl _ _ _ 58 rfl 3 3 keyInt Tryd.underlying3 Tryd.underlying58 encI w.heap.size (1 + k) _ rfl hI (by unfold maxLen; omega) z hwf (.int .i64 1) _ rfl rfl rfl ?_)
        intro w2 hI2 hgrow2
        rw [← valF_upd, ← HST.out] at hI2
        have HI2 := Lib.hid hI2
        have HRW2 := Lib.hid ((hgrow2.block _ hrlt (by intro e; injection e with e; omega)).trans HRW.out)
        have HB2 := Lib.hid (HB.out.grown hgrow2 HB.out.size (fun k hk => by injection hk with hk; omega))
        clear hI hI2 hgrow2 hcell
        go_wp2
        go_roundw
        case rel => exact ⟨k + 1, by omega, by go_num, HI2.out, HRW2.out, HB2.out⟩
        case measure => simp [intOf]; omega
      · obtain rfl : k = 5 := by omega
        have HI5 := Lib.hid hI
        have HB5 := Lib.hid hbw
        obtain ⟨w5, hw5⟩ : ∃ w5, w5 = wr := ⟨_, rfl⟩
        rw [← hw5] at HI5 HB5
        clear hI hrow hbw
        go_wp2
        rw [← hw5]
        clear hw5
        go_loopw [24] (fun i wr => ∃ k n : Nat, k ≤ ts.length ∧ i = .int .i64 k ∧ n ≤ 10 + 2 * k ∧ IMap Tryd.prog 3 encI wr w.heap.size n (valF (P.disp (ts.take k) true)) ∧ Below w.heap.size w wr) (fun i _ => ts.length - (intOf i).toNat)
        case atStart => exact ⟨0, 6, by omega, rfl, by omega, HI5.out, HB5.out⟩
        case round =>
          obtain ⟨k, n, hk, rfl, hnn, hI, hbw⟩ := hrel
          by_cases hlt : k < ts.length
          · obtain ⟨b, off, rfl, hb, hc0, hc1'⟩ := (HT.out.below hbw).get hlt
            have HST := Lib.hid (P.disp_step ts true k hlt)
            have hmem : ts.getD k (0, []) ∈ ts := by rw [List.getD_eq_getElem?_getD, List.getElem?_eq_getElem hlt]; exact List.getElem_mem hlt
            obtain ⟨b1, b2⟩ := HZ.out _ hmem
            obtain ⟨⟨z, s⟩, ht⟩ : ∃ t, ts.getD k (0, []) = t := ⟨_, rfl⟩
            rw [ht] at HST hc0 hc1' b1 b2
            simp only at hc0 hc1' b1 b2
            obtain ⟨x, hx⟩ : ∃ x, x = wr.alloc (.cells #[.int .i64 z, .string ⟨s.toArray⟩] 30) := ⟨_, rfl⟩
            have HX := Lib.hid hx
            have hyb : Below wr.heap.size wr x := by rw [hx]; exact (Below.refl _ _).alloc (Nat.le_refl _) _
            have hIx := hI.below hyb
            have hltx : wr.heap.size < x.heap.size := by rw [hx]; simp
            have hbx : x.heap[wr.heap.size]? = some (.cells #[.int .i64 z, .string ⟨s.toArray⟩] 30 (0, 0)) := by rw [hx]; exact heap_alloc_new wr _
            have hwlt : w.heap.size < wr.heap.size := hI.lt
            obtain ⟨f0, f1, -, -⟩ := box_cells hbx
            have HBX := Lib.hid hbx
            have HBx := Lib.hid (btr hbw hyb)
            have hwf : (Lit.int .i64 z).wf = true := wf64 (by omega) (by omega)
            clear ht hmem hx hyb hI hbw hbx
            go_wp2_with (at_mapUpdate; rw [← HX.out]; refine wpList_imap_store _ rfl _ _ _ 58 rfl 3 3 keyInt Tryd.underlying3 Tryd.underlying58 encI w.heap.size n _ rfl hIx (by unfold maxLen; omega) z hwf (.int .i64 2) _ rfl rfl rfl ?_)
            intro w1 hI1 hgrow1
            have hbx1 : w1.heap[wr.heap.size]? = some (.cells #[.int .i64 z, .string ⟨s.toArray⟩] 30 (0, 0)) := (hgrow1.block _ hltx (by intro e; injection e with e; omega)).trans HBX.out
            have HB1 := Lib.hid (HBx.out.grown hgrow1 HBx.out.size (fun k hk => by injection hk with hk; omega))
            clear f0 f1 hIx hgrow1
            obtain ⟨g0, g1, -, -⟩ := box_cells hbx1
            clear hbx1
            rcases List.eq_nil_or_concat s with hs | hs
            · subst hs
              have HF := Lib.hid (show upd (upd (valF (P.disp (ts.take k) true)) z (.int .i64 2)) z (.int .i64 1) = valF (P.disp (ts.take (k + 1)) true) by rw [upd_upd, HST.out, valF_upd]; rfl)
              go_wp2_with (at_mapUpdate; refine wpList_imap_store _ rfl _ _ _ 58 rfl 3 3 keyInt Tryd.underlying3 Tryd.underlying58 encI w.heap.size (n + 1) _ rfl hI1 (by unfold maxLen; omega) z hwf (.int .i64 1) _ rfl rfl rfl ?_)
              intro w2 hI2 hgrow2
              rw [HF.out] at hI2
              have HB2 := Lib.hid (HB1.out.grown hgrow2 HB1.out.size (fun k hk => by injection hk with hk; omega))
              have HI2 := Lib.hid hI2
              clear hI1 hI2 hgrow2 g0 g1
              go_wp2
              go_roundw
              case rel => first | exact ⟨k + 1, n + 1 + 1, by omega, by go_num, by omega, HI2.out, HB2.out⟩ | ((repeat apply Exists.intro); exact ⟨⟨k + 1, n + 1 + 1, by omega, by go_num, by omega, HI2.out, HB2.out⟩, rfl⟩)
              case measure => simp [intOf]; omega
            · have hs1 : s ≠ [] := by rintro rfl; simp at hs
              have hs2 : s.isEmpty = false := by cases s; simp at hs1; rfl
              have HF := Lib.hid (show upd (valF (P.disp (ts.take k) true)) z (.int .i64 2) = valF (P.disp (ts.take (k + 1)) true) by rw [HST.out, valF_upd]; simp [P.dispOf, hs1])
              rw [HF.out] at hI1
              have HI1 := Lib.hid hI1
              clear hs hs1 hI1
              go_wp2
              go_roundw
              case rel => first | exact ⟨k + 1, n + 1, by omega, by go_num, by omega, HI1.out, HB1.out⟩ | ((repeat apply Exists.intro); exact ⟨⟨k + 1, n + 1, by omega, by go_num, by omega, HI1.out, HB1.out⟩, rfl⟩)
              case measure => simp [intOf]; omega
          · have HF := Lib.hid (show P.disp (ts.take k) true = R by rw [← HR.out, List.take_of_length_le (by omega)])
            have HI := Lib.hid hI
            have HB := Lib.hid hbw
            clear hI hbw
            go_wp2
            go_ret
            exact ⟨_, n, rfl, Nat.le_refl _, by omega, by rw [← HF.out]; exact HI.out, HB.out⟩
  | false =>
    go_enter Tryd.func40, Tryd.ntmps40
    go_wp2
    rw [← Q0.out]
    go_loopw [24] (fun i wr => ∃ k n : Nat, k ≤ ts.length ∧ i = .int .i64 k ∧ n ≤ 10 + 2 * k ∧ IMap Tryd.prog 3 encI wr w.heap.size n (valF (P.disp (ts.take k) false)) ∧ Below w.heap.size w wr) (fun i _ => ts.length - (intOf i).toNat)
    case atStart => exact ⟨0, 0, by omega, rfl, by omega, hI0, hb0⟩
    case round =>
      obtain ⟨k, n, hk, rfl, hnn, hI, hbw⟩ := hrel
      by_cases hlt : k < ts.length
      · obtain ⟨b, off, rfl, hb, hc0, hc1'⟩ := (HT.out.below hbw).get hlt
        have HST := Lib.hid (P.disp_step ts false k hlt)
        have hmem : ts.getD k (0, []) ∈ ts := by rw [List.getD_eq_getElem?_getD, List.getElem?_eq_getElem hlt]; exact List.getElem_mem hlt
        obtain ⟨b1, b2⟩ := HZ.out _ hmem
        obtain ⟨⟨z, s⟩, ht⟩ : ∃ t, ts.getD k (0, []) = t := ⟨_, rfl⟩
        rw [ht] at HST hc0 hc1' b1 b2
        simp only at hc0 hc1' b1 b2
        obtain ⟨x, hx⟩ : ∃ x, x = wr.alloc (.cells #[.int .i64 z, .string ⟨s.toArray⟩] 30) := ⟨_, rfl⟩
        have HX := Lib.hid hx
        have hyb : Below wr.heap.size wr x := by rw [hx]; exact (Below.refl _ _).alloc (Nat.le_refl _) _
        have hIx := hI.below hyb
        have hltx : wr.heap.size < x.heap.size := by rw [hx]; simp
        have hbx : x.heap[wr.heap.size]? = some (.cells #[.int .i64 z, .string ⟨s.toArray⟩] 30 (0, 0)) := by rw [hx]; exact heap_alloc_new wr _
        have hwlt : w.heap.size < wr.heap.size := hI.lt
        obtain ⟨f0, f1, -, -⟩ := box_cells hbx
        have HBX := Lib.hid hbx
        have HBx := Lib.hid (btr hbw hyb)
        have hwf : (Lit.int .i64 z).wf = true := wf64 (by omega) (by omega)
        clear ht hmem hx hyb hI hbw hbx
        go_wp2_with (at_mapUpdate; rw [← HX.out]; refine wpList_imap_store _ rfl _ _ _ 58 rfl 3 3 keyInt Tryd.underlying3 Tryd.underlying58 encI w.heap.size n _ rfl hIx (by unfold maxLen; omega) z hwf (.int .i64 2) _ rfl rfl rfl ?_)
        intro w1 hI1 hgrow1
        have hbx1 : w1.heap[wr.heap.size]? = some (.cells #[.int .i64 z, .string ⟨s.toArray⟩] 30 (0, 0)) := (hgrow1.block _ hltx (by intro e; injection e with e; omega)).trans HBX.out
        have HB1 := Lib.hid (HBx.out.grown hgrow1 HBx.out.size (fun k hk => by injection hk with hk; omega))
        clear f0 f1 hIx hgrow1
        obtain ⟨g0, g1, -, -⟩ := box_cells hbx1
        clear hbx1
        rcases List.eq_nil_or_concat s with hs | hs
        · subst hs
          have HF := Lib.hid (show upd (upd (valF (P.disp (ts.take k) false)) z (.int .i64 2)) z (.int .i64 1) = valF (P.disp (ts.take (k + 1)) false) by rw [upd_upd, HST.out, valF_upd]; rfl)
          go_wp2_with (at_mapUpdate; refine wpList_imap_store _ rfl _ _ _ 58 rfl 3 3 keyInt Tryd.underlying3 Tryd.underlying58 encI w.heap.size (n + 1) _ rfl hI1 (by unfold maxLen; omega) z hwf (.int .i64 1) _ rfl rfl rfl ?_)
          intro w2 hI2 hgrow2
          rw [HF.out] at hI2
          have HB2 := Lib.hid (HB1.out.grown hgrow2 HB1.out.size (fun k hk => by injection hk with hk; omega))
          have HI2 := Lib.hid hI2
          clear hI1 hI2 hgrow2 g0 g1
          go_wp2
          go_roundw
          case rel => first | exact ⟨k + 1, n + 1 + 1, by omega, by go_num, by omega, HI2.out, HB2.out⟩ | ((repeat apply Exists.intro); exact ⟨⟨k + 1, n + 1 + 1, by omega, by go_num, by omega, HI2.out, HB2.out⟩, rfl⟩)
          case measure => simp [intOf]; omega
        · have hs1 : s ≠ [] := by rintro rfl; simp at hs
          have hs2 : s.isEmpty = false := by cases s; simp at hs1; rfl
          have HF := Lib.hid (show upd (valF (P.disp (ts.take k) false)) z (.int .i64 2) = valF (P.disp (ts.take (k + 1)) false) by rw [HST.out, valF_upd]; simp [P.dispOf, hs1])
          rw [HF.out] at hI1
          have HI1 := Lib.hid hI1
          clear hs hs1 hI1
          go_wp2
          go_roundw
          case rel => first | exact ⟨k + 1, n + 1, by omega, by go_num, by omega, HI1.out, HB1.out⟩ | ((repeat apply Exists.intro); exact ⟨⟨k + 1, n + 1, by omega, by go_num, by omega, HI1.out, HB1.out⟩, rfl⟩)
          case measure => simp [intOf]; omega
      · have HF := Lib.hid (show P.disp (ts.take k) false = R by rw [← HR.out, List.take_of_length_le (by omega)])
        have HI := Lib.hid hI
        have HB := Lib.hid hbw
        clear hI hbw
        go_wp2
        go_ret
        exact ⟨_, n, rfl, Nat.le_refl _, by omega, by rw [← HF.out]; exact HI.out, HB.out⟩
end W
end Go.Proofs.YtfigidknocpdaaaDoor
