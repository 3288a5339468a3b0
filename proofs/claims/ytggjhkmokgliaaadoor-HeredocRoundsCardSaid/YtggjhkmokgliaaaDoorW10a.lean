/- Chapter 10: lines, and the library's small functions. -/
import Derived.RangeFuncNested
import Derived.RangeFuncBound
import Derived.RangeFuncCalls
import Derived.RangeFuncLeaves
import Derived.Shelf.Abstract
import Derived.Shelf.RegionOpen
import Derived.WalkKit
import Derived.OwnWalkIn
import Derived.TacticsInMore
import Derived.LoopNIn
import Derived.LoopIn
import Derived.Test.YtggjhkmokgliaaaDoorShelf
import Derived.Test.YtggjhkmokgliaaaDoorBldS
import Derived.Test.YtggjhkmokgliaaaDoorP10a
namespace Go.Proofs.YtggjhkmokgliaaaDoor
open Go.RowKit Go.Shelf K
attribute [local go_sem] Oper.semAt_some
/-- The length of a string value. -/
def sLen : Value → Nat
  | .string s => s.size
  | _ => 0
theorem sLen_of (l : List UInt8) : sLen (.string ⟨l.toArray⟩) = l.length := by simp [sLen, ByteArray.size]
namespace P
theorem trimL (s : Str) : Lib.trimLeftB s 9 = notab s := by
  unfold Lib.trimLeftB
  induction s with
  | nil => rfl
  | cons c r ih =>
    rw [List.dropWhile_cons, notab]
    by_cases h : c = 9
    · rw [if_pos (by simp [h]), if_pos h, ih]
    · rw [if_neg (by simp [h]), if_neg h]
theorem trimS (s : Str) : Lib.trimSuffix s [10] = chomp s := by
  unfold Lib.trimSuffix chomp Lib.hasSuffix
  rcases List.eq_nil_or_concat s with rfl | ⟨a, c, rfl⟩
  · rfl
  · rw [List.concat_eq_append]
    by_cases h : c = 10
    · subst h
      have h1 : List.isSuffixOf [10] (a ++ [(10 : UInt8)]) = true := by simp [List.isSuffixOf]
      rw [if_pos h1, if_pos (by simp)]
      simp
    · have h1 : ¬ List.isSuffixOf [10] (a ++ [c]) = true := by
        simp [List.isSuffixOf]
        intro e
        exact h e.symm
      rw [if_neg h1, if_neg (by simp [h])]
theorem ix_at {a b : Str} (h : (10 : UInt8) ∉ a) : Lib.indexByte (a ++ 10 :: b) 10 = a.length := by
  induction a with
  | nil => simp [Lib.indexByte]
  | cons c r ih =>
    simp only [List.mem_cons, not_or] at h
    rw [List.cons_append, Lib.indexByte, if_neg (by simp; exact fun e => h.1 e.symm), ih h.2, if_neg (by simp)]
    simp
theorem ix_no {a : Str} (h : (10 : UInt8) ∉ a) : Lib.indexByte a 10 = -1 := by
  induction a with
  | nil => rfl
  | cons c r ih =>
    simp only [List.mem_cons, not_or] at h
    rw [Lib.indexByte, if_neg (by simp; exact fun e => h.1 e.symm), ih h.2]
    rfl
end P
namespace W
/-- A line that is not too long. -/
abbrev SS := { x : List UInt8 // x.length ≤ 10000 }
/-- The lines themselves. -/
def vals (l : List SS) : List (List UInt8) := l.map Subtype.val
theorem vals_snoc (l : List SS) (x : SS) : vals (l ++ [x]) = vals l ++ [x.1] := by unfold vals; simp
theorem vals_len (l : List SS) : (vals l).flatten.length ≤ l.length * 10000 := by
  unfold vals
  induction l with
  | nil => simp
  | cons x r ih => simp at ih ⊢; have := x.2; omega
theorem btr {a b c : World} (h : Below a.heap.size a b) (k : Below b.heap.size b c) : Below a.heap.size a c := h.trans (k.mono h.size)
theorem balloc (w : World) (o : Obj) : Below w.heap.size w (w.alloc o) := (Below.refl _ _).alloc (Nat.le_refl _) _
theorem TrimLeft_tab (s : List UInt8) (w : World) : Calls Tryd.prog 16 #[.string ⟨s.toArray⟩, .string ⟨#[9]⟩] w fun e w' => e = .returned (.string ⟨(P.notab s).toArray⟩) ∧ w = w' := by
  have := Tryd.strings_TrimLeft_one ⟨s.toArray⟩ 9 (by decide) w
  simp only [P.trimL] at this
  exact this.mono fun e w' ⟨h1, h2⟩ => ⟨h1, h2.symm⟩
theorem TrimSuffix_nl (s : List UInt8) (w : World) (hs : s.length ≤ 1000000) : Calls Tryd.prog 18 #[.string ⟨s.toArray⟩, .string ⟨#[10]⟩] w fun e w' => e = .returned (.string ⟨(P.chomp s).toArray⟩) ∧ w = w' := by
  have := Tryd.strings_TrimSuffix ⟨s.toArray⟩ ⟨#[10]⟩ w (by simp [ByteArray.size]; omega)
  simp only [P.trimS] at this
  exact this.mono fun e w' ⟨h1, h2⟩ => ⟨h1, h2.symm⟩
theorem IndexByte_nl (s : List UInt8) (w : World) : Calls Tryd.prog 25 #[.string ⟨s.toArray⟩, .int .u8 10] w fun e w' => e = .returned (.int .i64 (Lib.indexByte s 10)) ∧ w = w' := by
  have := Tryd.strings_IndexByte ⟨s.toArray⟩ 10 w
  exact this.mono fun e w' ⟨h1, h2⟩ => ⟨h1, h2.symm⟩
set_option maxHeartbeats 1000000 in
theorem lines_any (s : List UInt8) (a : Int) (w : World) : Calls Tryd.prog 14 #[.string ⟨s.toArray⟩, .int .i64 a] w fun e w' => e = .returned (.func (.func 24) #[] #[.pointer (some ⟨w.heap.size, 0, none⟩), .pointer (some ⟨w.heap.size + 1, 0, none⟩)]) ∧ w' = (w.alloc (.cells #[.string ⟨s.toArray⟩] 9)).alloc (.cells #[.int .i64 a] 3) := by
  have hmf : ∀ (fn : Fn) (first cap : Array Value) (w : World), (Instr.makeFunc fn first cap).run Tryd.prog w = .ok (.func fn first cap) w := fun _ _ _ _ => rfl
  go_enter Tryd.func14, Tryd.ntmps14
  go_wp2
  go_ret
  exact ⟨rfl, rfl⟩
set_option maxRecDepth 100000 in
set_option maxHeartbeats 2000000 in
theorem lines1_in (n : Nat) (hn : 1 ≤ n) (l Bs Ba n₀ : Nat) (s : List UInt8) (a : Nat) (ha : a ≤ s.length) (hl : s.length ≤ 10000) (J Jx : List SS → World → Prop)
    (hY : ∀ pre (x : SS) W, J pre W → pre.length < s.length + 1 → YieldAt Fence.wide (n - 1) Tryd.prog l #[.string ⟨x.1.toArray⟩] W fun e W' =>
      (e = .returned (.bool true) ∧ J (pre ++ [x]) W' ∧ Below n₀ W W') ∨ (e = .returned (.bool false) ∧ Jx (pre ++ [x]) W'))
    (W : World) (hs : W.cell? ⟨Bs, 0, none⟩ = some (.string ⟨s.toArray⟩)) (hb : W.cell? ⟨Ba, 0, none⟩ = some (.int .i64 a)) (h0 : J [] W) :
    CallsIn Fence.wide n Tryd.prog 24 #[.func (.yield l) #[] #[], .pointer (some ⟨Bs, 0, none⟩), .pointer (some ⟨Ba, 0, none⟩)] W fun e W' => (∃ v, e = .returned v) ∧
      ((∃ ys, vals ys = P.lns (s.drop a) ∧ J ys W') ∨ (∃ pre, vals pre <+: P.lns (s.drop a) ∧ Jx pre W')) := by
  have HIX := Lib.hid (fun r w => IndexByte_nl r w)
  have HYY := Lib.hid hY
  obtain ⟨d, hd⟩ : ∃ d, d = s.drop a := ⟨_, rfl⟩
  have hdl : d.length ≤ 10000 := by rw [hd]; simp; omega
  have HDL := Lib.hid (show d.length ≤ s.length by rw [hd]; simp)
  have hcut : cut s a s.length = d := by rw [cut_end, hd]
  rw [← hd]
  have k0 : (0 : Int) ≤ (a : Int) := by omega
  have k1 : (a : Int) ≤ (s.length : Int) := by omega
  clear hY hd
  refine callsIn_of_wp Tryd.func24 rfl trivial ?_ rfl
  simp only [Tryd.ntmps24, List.size_toArray, List.length_cons, List.length_nil, Nat.reduceAdd, Nat.reduceSub, Array.replicate_succ, Array.replicate_zero, List.push_toArray, List.append_toArray, List.nil_append, List.cons_append]
  gi_wp2
  gi_loopw [4] (fun v wr => ∃ (pre : List SS) (r : List UInt8), v = .string ⟨r.toArray⟩ ∧ r.length ≤ 10000 ∧ Hid (P.lns d = vals pre ++ P.lns r) ∧ J pre wr) (fun v _ => sLen v)
  case atStart => exact ⟨[], d, rfl, hdl, rfl, h0⟩
  case round =>
    obtain ⟨pre, r, rfl, hrl, HK, hJs⟩ := hrel
    by_cases hr : r = []
    · subst hr
      have HF := Lib.hid (show vals pre = P.lns d by rw [HK.out]; simp [P.lns])
      gi_wp2
      go_end0
      exact ⟨⟨_, rfl⟩, .inl ⟨pre, HF.out, hJs⟩⟩
    have hre : r.isEmpty = false := by cases r; simp at hr; rfl
    have HPL := Lib.hid (show pre.length < s.length + 1 by
      have h1 := P.lns_length d
      rw [HK.out, List.length_append] at h1
      have h2 : (vals pre).length = pre.length := by unfold vals; simp
      have := HDL.out
      omega)
    have hsp : ∃ (m : Nat) (y b : List UInt8), P.lns r = y :: P.lns b ∧ b.length < r.length ∧ cut r 0 m = y ∧ cut r m r.length = b ∧ m ≤ r.length ∧ ((∃ z : Nat, Lib.indexByte r 10 = (z : Int) ∧ m = z + 1) ∨ (Lib.indexByte r 10 = -1 ∧ m = r.length)) := by
      rcases P.parts_of r with ⟨x, b, rfl, hx⟩ | hx
      · refine ⟨x.length + 1, x ++ [10], b, P.lns_at hx, by simp; omega, ?_, ?_, by simp, .inl ⟨x.length, P.ix_at hx, rfl⟩⟩
        · unfold cut
          rw [List.drop_zero, show x ++ 10 :: b = (x ++ [10]) ++ b by simp]
          exact List.take_left' (by simp)
        · rw [cut_end]
          simp
      · refine ⟨r.length, r, [], by rw [P.lns_last hx hr]; rfl, by cases r; simp at hr; simp, by simp [cut], by rw [cut_end]; simp, Nat.le_refl _, .inr ⟨P.ix_no hx, rfl⟩⟩
    obtain ⟨m, y, b, hln, hbl, hc1, hc2, hmr, hix⟩ := hsp
    have HBL := Lib.hid hbl
    have HLN := Lib.hid hln
    have HIXr := Lib.hid (fun w => HIX.out r w)
    have hyl : y.length ≤ 10000 := by rw [← hc1]; simp; omega
    obtain ⟨fn, tmps, assign, body, hy, hR⟩ := HYY.out pre ⟨y, hyl⟩ wr hJs HPL.out
    dsimp only at hy
    have m0 : (m : Int) ≤ (r.length : Int) := by omega
    have HPX := Lib.hid (show vals (pre ++ [⟨y, hyl⟩]) <+: P.lns d from ⟨P.lns b, by rw [vals_snoc, HK.out, HLN.out]; simp⟩)
    have HKN := Lib.hid (show P.lns d = vals (pre ++ [⟨y, hyl⟩]) ++ P.lns b by rw [vals_snoc, HK.out, HLN.out]; simp)
    clear hln hbl hr
    rcases hix with ⟨z, hz, rfl⟩ | ⟨hz, rfl⟩
    · rw [hz] at HIXr
      have z0 : (0 : Int) ≤ (z : Int) := by omega
      have z1 : (z : Int) ≤ 10000 := by omega
      clear hz
      gi_wp2_with (first | (gi_at_call 25; refine (callsIn_wide.2 (HIXr.out _)).mono ?_; rintro e w' ⟨rfl, rfl⟩) | (refine ⟨trivial, ?_⟩; gi_at_call 25; refine (callsIn_wide.2 (HIXr.out _)).mono ?_; rintro e w' ⟨rfl, rfl⟩))
      refine hR.mono ?_
      rintro e W3 (⟨rfl, hJ3, hk3⟩ | ⟨rfl, hJx3⟩)
      · gi_wp2
        go_roundw
        case rel => exact ⟨pre ++ [⟨y, hyl⟩], b, rfl, by have := HBL.out; omega, HKN, hJ3⟩
        case measure => rw [sLen_of, sLen_of]; exact HBL.out
      · gi_wp2
        refine bodyPost_ret (results_none rfl _ _ _) rfl ?_
        exact ⟨⟨_, rfl⟩, .inr ⟨_, HPX.out, hJx3⟩⟩
    · rw [hz] at HIXr
      obtain rfl : b = [] := by rw [← hc2, cut_end]; simp
      clear hz
      gi_wp2_with (first | (gi_at_call 25; refine (callsIn_wide.2 (HIXr.out _)).mono ?_; rintro e w' ⟨rfl, rfl⟩) | (refine ⟨trivial, ?_⟩; gi_at_call 25; refine (callsIn_wide.2 (HIXr.out _)).mono ?_; rintro e w' ⟨rfl, rfl⟩))
      refine hR.mono ?_
      rintro e W3 (⟨rfl, hJ3, hk3⟩ | ⟨rfl, hJx3⟩)
      · gi_wp2
        go_roundw
        case rel => exact ⟨pre ++ [⟨y, hyl⟩], [], rfl, by simp, HKN, hJ3⟩
        case measure => rw [sLen_of]; exact HBL.out
      · gi_wp2
        refine bodyPost_ret (results_none rfl _ _ _) rfl ?_
        exact ⟨⟨_, rfl⟩, .inr ⟨_, HPX.out, hJx3⟩⟩
/-- The closure of lines, as an iterator. -/
theorem lines_stops (n : Nat) (hn : 1 ≤ n) (Bs Ba n₀ : Nat) (s : List UInt8) (a : Nat) (ha : a ≤ s.length) (hl : s.length ≤ 10000) (w : World) (h1 : Bs < w.heap.size) (h2 : Ba < w.heap.size)
    (hs : w.cell? ⟨Bs, 0, none⟩ = some (.string ⟨s.toArray⟩)) (hb : w.cell? ⟨Ba, 0, none⟩ = some (.int .i64 a)) :
    SeqStopsK Fence.wide n Tryd.prog 24 #[.pointer (some ⟨Bs, 0, none⟩), .pointer (some ⟨Ba, 0, none⟩)] (fun x : SS => #[Value.string ⟨x.1.toArray⟩]) (Below n₀) (fun ys => vals ys = P.lns (s.drop a)) (fun pre => vals pre <+: P.lns (s.drop a)) (s.length + 1) w := fun l J Jx W hW _ _ hY h0 =>
  lines1_in n hn l Bs Ba n₀ s a ha hl J Jx hY W ((hW.cell (p := ⟨Bs, 0, none⟩) h1).trans hs) ((hW.cell (p := ⟨Ba, 0, none⟩) h2).trans hb) h0
end W
end Go.Proofs.YtggjhkmokgliaaaDoor
