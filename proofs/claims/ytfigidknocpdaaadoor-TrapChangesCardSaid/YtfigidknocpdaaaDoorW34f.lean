/- Chapter 34: Show of trap. -/
import Derived.Test.YtfigidknocpdaaaDoorW34d
import Derived.Test.YtfigidknocpdaaaDoorQ34
namespace Go.Proofs.YtfigidknocpdaaaDoor
open Go.RowKit K
namespace P
def trapName (z : Int) : List UInt8 := if z = 0 then [69, 88, 73, 84] else if nameL z = [] then Lib.itoa z else nameL z
def showLine (t : Tr) : List UInt8 := [116, 114, 97, 112, 32, 45, 45, 32] ++ quote t.2 ++ [32] ++ trapName t.1
def shows (ts : List Tr) : List (List UInt8) := ts.map showLine
theorem trapName_le (z : Int) (h0 : 0 ≤ z) (h1 : z ≤ 20) : (trapName z).length ≤ 4 := by
  unfold trapName
  split
  · simp
  · split
    · obtain ⟨k, rfl⟩ := Int.eq_ofNat_of_zero_le h0
      have := itoa_short k (by omega)
      omega
    · exact nameL_le z
theorem quote_len (l : List UInt8) : (quote l).length ≤ 4 * l.length + 2 := by
  have := quoteBody_le l
  unfold quote
  split
  · omega
  · simp; omega
end P
namespace K
theorem own_below {w w' : World} {base : Nat} {e : TypeId} {size : Nat} {v : Value} {n : Nat} {xs : List Value} (h : w.ownsRow base e size v n xs) (hb : Below w.heap.size w w') : w'.ownsRow base e size v n xs := by
  refine ⟨h.1, ?_⟩
  rcases h.2 with hn | ⟨g, cap, cur, rfl, h1, hg, rest⟩
  · exact .inl hn
  · exact .inr ⟨g, cap, cur, rfl, h1, (hb.block g (Array.getElem?_eq_some_iff.1 hg).1).trans hg, rest⟩
end K
namespace W
theorem infoStr : (Tryd.prog.info? 9).map (fun i => (i.zero, i.size, i.bytes)) = some (some (.string ⟨#[]⟩), 1, 16) := by kernel_rfl
/-- A slice of strings of the call's own comes back. -/
def SPost (w : World) (ls : List (List UInt8)) (e : Ending) (w' : World) : Prop := ∃ v, e = .returned v ∧ w'.ownsRow w.heap.size 9 1 v ls.length (ls.map fun s => .string ⟨s.toArray⟩) ∧ Below w.heap.size w w'

set_option maxHeartbeats 2000000 in
theorem Show_any (v : Value) (ts : List Tr) (w : World) (hV : TV w v ts) (hn : ts.length ≤ 1000) (hz : ∀ t ∈ ts, 0 ≤ t.1 ∧ t.1 ≤ 20 ∧ t.2.length ≤ 1000) (hw : Env w) :
    Calls Tryd.prog 26 #[v] w (SPost w (P.shows ts)) := by
  obtain ⟨i0, hi, hz0, hz1, hz2⟩ := info_parts infoStr
  obtain ⟨A, c, rfl, hc1, hc2, -, hT⟩ := hV
  obtain ⟨R, hR⟩ : ∃ R, P.shows ts = R := ⟨_, rfl⟩
  rw [hR]
  have HR := Lib.hid (show ts.map P.showLine = R from hR)
  have HT := Lib.hid hT
  have HZ := Lib.hid hz
  have HE := Lib.hid hw
  clear hR hT hz hw
  go_enter Tryd.func26, Tryd.ntmps26
  go_wp2
  go_loopw [3, 9] (fun o i wr => ∃ (k : Nat) (acc : List (List UInt8)), k ≤ ts.length ∧ i = .int .i64 k ∧ acc.length ≤ k ∧ wr.ownsRow w.heap.size 9 1 o acc.length (acc.map fun s => .string ⟨s.toArray⟩) ∧ Below w.heap.size w wr ∧ Hid (acc ++ (ts.drop k).map P.showLine = R)) (fun _ i _ => ts.length - (intOf i).toNat)
  case atStart => exact ⟨0, [], by omega, rfl, by simp, World.ownsRow_nil _ _ _ _, Below.refl _ _, by show _ = _; simpa using HR.out⟩
  case round =>
    obtain ⟨k, acc, hk, rfl, hac, hown, hbw, HN⟩ := hrel
    by_cases hlt : k < ts.length
    · obtain ⟨b, off, rfl, hb, hc0, hc1'⟩ := (HT.out.below hbw).get hlt
      have HD := Lib.hid (drop_getT hlt)
      have hmem : ts.getD k (0, []) ∈ ts := by rw [List.getD_eq_getElem?_getD, List.getElem?_eq_getElem hlt]; exact List.getElem_mem hlt
      obtain ⟨b1, b2, b3⟩ := HZ.out _ hmem
      obtain ⟨⟨z, s⟩, ht⟩ : ∃ t, ts.getD k (0, []) = t := ⟨_, rfl⟩
      rw [ht] at HD hc0 hc1' b1 b2 b3
      simp only at hc0 hc1' b1 b2 b3
      have HL := Lib.hid (show acc ++ [P.showLine (z, s)] ++ (ts.drop (k + 1)).map P.showLine = R by rw [← HN.out, HD.out]; simp)
      have HLN := Lib.hid (show P.showLine (z, s) = [116, 114, 97, 112, 32, 45, 45, 32] ++ P.quote s ++ [32] ++ P.trapName z from rfl)
      generalize P.showLine (z, s) = line at HL HLN
      obtain ⟨nm, hnm⟩ : ∃ nm, P.trapName z = nm := ⟨_, rfl⟩
      have hnl := P.trapName_le z b1 b2
      have hql := P.quote_len s
      rw [hnm] at HLN hnl
      have hsz := hbw.size
      clear ht hmem HN HD
      obtain ⟨x, hx⟩ : ∃ x, x = wr.alloc (.cells #[.int .i64 z, .string ⟨s.toArray⟩] 30) := ⟨_, rfl⟩
      have HX := Lib.hid hx
      have hyb : Below wr.heap.size wr x := by rw [hx]; exact (Below.refl _ _).alloc (Nat.le_refl _) _
      have HEx := Lib.hid (HE.out.below (btr hbw hyb))
      have HOx := Lib.hid (own_below hown hyb)
      have HBx := Lib.hid (btr hbw hyb)
      have HC := Lib.hid (show ∀ w', Below x.heap.size x w' → w'.cell? ⟨wr.heap.size, 0, none⟩ = some (.int .i64 z) ∧ w'.cell? ⟨wr.heap.size, 1, none⟩ = some (.string ⟨s.toArray⟩) from fun w' hb => by
        have hlt : wr.heap.size < x.heap.size := by rw [hx]; simp
        exact ⟨(hb.cell (p := ⟨wr.heap.size, 0, none⟩) hlt).trans (by rw [hx]; simp), (hb.cell (p := ⟨wr.heap.size, 1, none⟩) hlt).trans (by rw [hx]; simp)⟩)
      have HQ := Lib.hid (fun w e => Quote_any s w (by omega) e)
      obtain ⟨q, hq⟩ : ∃ q, P.quote s = q := ⟨_, rfl⟩
      rw [hq] at HQ HLN hql
      obtain ⟨f0, f1⟩ := HC.out x (Below.refl _ _)
      have HNA := Lib.hid (Name_any z x HEx.out)
      obtain ⟨nl, hnl0⟩ : ∃ nl, P.nameL z = nl := ⟨_, rfl⟩
      rw [hnl0] at HNA
      have HMAIN : Hid ((z = 0 ∧ nm = [69, 88, 73, 84]) ∨ (z ≠ 0 ∧ nl = [] ∧ nm = Lib.itoa z) ∨ (z ≠ 0 ∧ nl ≠ [] ∧ nm = nl)) := by
        show _ ∨ _
        rw [← hnm, ← hnl0]
        unfold P.trapName
        by_cases h1 : z = 0
        · left; simp [h1]
        · by_cases h2 : P.nameL z = []
          · right; left; simp [h1, h2]
          · right; right; simp [h1, h2]
      clear hx hyb hbw hown hq hnm hnl0 HE
      have HAPP := Lib.hid (show (acc.map fun s => Value.string ⟨s.toArray⟩) ++ [Value.string ⟨line.toArray⟩] = (acc ++ [line]).map fun s => Value.string ⟨s.toArray⟩ by simp)
      go_wp2_with fail
      rw [← HX.out]
      refine HNA.out.mono ?_
      rintro e w1 ⟨rfl, rfl⟩
      rcases HMAIN.out with ⟨m1, m2⟩ | ⟨m1, m2, m3⟩ | ⟨m1, m2, m3⟩
      case' inl => have e1 : (z == 0) = true := by simp [m1]
      case' inr.inl =>
        have e1 : (z == 0) = false := by simp [m1]
        subst m2
        obtain ⟨kz, rfl⟩ := Int.eq_ofNat_of_zero_le b1
        have HIT := Lib.hid (fun w => Itoa_k kz w (by omega))
        rw [← m3] at HIT
      case' inr.inr =>
        have e1 : (z == 0) = false := by simp [m1]
        have e2 : nl.isEmpty = false := by cases nl; simp at m2; rfl
        subst m3
      case' inl =>
        subst m2
        clear m1
        go_wp2_with fail
      case' inr.inl =>
        clear m1 m3
        go_wp2_with fail
        refine (HIT.out _).mono ?_
        rintro e w1 ⟨rfl, rfl⟩
        go_wp2_with fail
      case' inr.inr =>
        clear m1 m2
        go_wp2_with fail
      all_goals
        refine (HQ.out _ HEx.out).mono ?_
        rintro e w2 ⟨rfl, hb2⟩
        have hown2 := own_below HOx.out hb2
        have HO2 := Lib.hid hown2
        have HB2 := Lib.hid (btr HBx.out hb2)
        have hsz2 := HB2.out.size
        have HLN2 := HLN
        clear hb2 f0 f1
        go_wp2_with (at_builtin; refine wpList_append_own _ rfl _ _ 38 rfl w.heap.size 9 i0 (.string ⟨#[]⟩) 1 16 Tryd.underlying38 hi hz0 hz1 hz2 rfl (by decide) _ _ _ rfl (hown2.alloc _) ⟨w2.heap.size, 0, none⟩ 1 1 [.string _] rfl rfl (one_cells w2 _ _) (one_str _) (by unfold maxLen; omega) (by omega) (by simp; omega) ?_)
        intro v3 w3 hown3 hgrow3 _
        have hb3 : Below w.heap.size w w3 := (HB2.out.alloc HB2.out.size _).grown hgrow3 (by simp; omega) (fun k hk => (HO2.out.lt k hk).1)
        have hown4 : w3.ownsRow w.heap.size 9 1 v3 (acc.length + 1) ((acc ++ [line]).map fun s => .string ⟨s.toArray⟩) := by
          rw [← HAPP.out, HLN.out]
          simpa using hown3
        have HO4 := Lib.hid hown4
        have HB3 := Lib.hid hb3
        clear hown2 hown3 hgrow3 hb3 hown4
        go_wp2
        go_roundw
        case rel => exact ⟨k + 1, acc ++ [line], by omega, by go_num, by simp; omega, by simpa using HO4.out, HB3.out, HL.out⟩
        case measure => simp [intOf]; omega
    · have HF := Lib.hid (show acc = R by have := HN.out; rw [List.drop_eq_nil_of_le (by omega)] at this; simpa using this)
      have HB := Lib.hid hbw
      have HO := Lib.hid hown
      clear hown hbw
      go_wp2
      go_ret
      exact ⟨_, rfl, by rw [← HF.out]; exact HO.out, HB.out⟩
end W
end Go.Proofs.YtfigidknocpdaaaDoor
