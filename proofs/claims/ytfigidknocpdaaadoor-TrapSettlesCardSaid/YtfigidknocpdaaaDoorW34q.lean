/- Chapter 34: texts of the laws. -/
import Derived.Test.YtfigidknocpdaaaDoorW34p
namespace Go.Proofs.YtfigidknocpdaaaDoor
open Go.RowKit K
namespace K
theorem drop_getS {ls : List (List UInt8)} {k : Nat} (h : k < ls.length) : ls.drop k = ls.getD k [] :: ls.drop (k + 1) := by
  rw [List.getD_eq_getElem?_getD, List.getElem?_eq_getElem h, List.drop_eq_getElem_cons h]; rfl
end K
namespace W
theorem texts_any (A B : Option Addr) (ca cb : Nat) (la lb : List (List UInt8)) (w : World) (hTa : SL w A la) (hTb : SL w B lb) (hna : la.length ≤ 1000000) :
    Calls Tryd.prog 25 #[.slice A la.length ca, .slice B lb.length cb] w fun e w' => e = .returned (.bool (decide (la = lb))) ∧ Below w.heap.size w w' := by
  by_cases hn : la.length = lb.length
  case neg =>
    have f2 : ((la.length : Int) != (lb.length : Int)) = true := by simp; omega
    have HG := Lib.hid (show decide (la = lb) = false by simp; intro e; exact hn (by rw [e]))
    clear hn hTa hTb
    go_enter Tryd.func25, Tryd.ntmps25
    go_wp2
    go_ret
    exact ⟨ret_bool HG.out.symm, Below.refl _ _⟩
  obtain ⟨n, hna'⟩ : ∃ n, la.length = n := ⟨_, rfl⟩
  have hnb' : lb.length = n := by omega
  rw [hna', hnb']
  rw [hna'] at hna
  have HNA := Lib.hid hna'
  have HNB := Lib.hid hnb'
  obtain ⟨res, hres⟩ : ∃ res, decide (la = lb) = res := ⟨_, rfl⟩
  have HR := Lib.hid hres
  rw [hres]
  have HTa := Lib.hid hTa
  have HTb := Lib.hid hTb
  clear hres hn hna' hnb' hTa hTb
  go_enter Tryd.func25, Tryd.ntmps25
  go_wp2
  go_loopw [5] (fun i wr => ∃ k : Nat, k ≤ n ∧ i = .int .i64 k ∧ Below w.heap.size w wr ∧ Hid (decide (la.drop k = lb.drop k) = res)) (fun i _ => n - (intOf i).toNat)
  case atStart => exact ⟨0, by omega, rfl, Below.refl _ _, HR.out⟩
  case round =>
    obtain ⟨k, hk, rfl, hbw, HN⟩ := hrel
    have HBW := Lib.hid hbw
    by_cases hlt : k < n
    · obtain ⟨b, off, rfl, hb, hc0⟩ := (HTa.out.below hbw).get (k := k) (by have := HNA.out; omega)
      obtain ⟨b', off', rfl, hb', hd0⟩ := (HTb.out.below hbw).get (k := k) (by have := HNB.out; omega)
      have hda := Lib.hid (drop_getS (ls := la) (k := k) (by have := HNA.out; omega))
      have hdb := Lib.hid (drop_getS (ls := lb) (k := k) (by have := HNB.out; omega))
      obtain ⟨z, ht⟩ : ∃ t, la.getD k [] = t := ⟨_, rfl⟩
      obtain ⟨z', ht'⟩ : ∃ t, lb.getD k [] = t := ⟨_, rfl⟩
      rw [ht] at hda hc0
      rw [ht'] at hdb hd0
      have hk0 : (0 : Int) ≤ (k : Int) := by omega
      have hk1 : (k : Int) < (n : Int) := by omega
      clear ht ht' hbw
      by_cases h1 : z = z'
      · subst h1
        have HF := Lib.hid (show decide (la.drop (k + 1) = lb.drop (k + 1)) = res by rw [← HN.out, hda.out, hdb.out]; simp)
        go_wp2_with fail
        go_quiet (fail)
        go_wp2
        go_roundw
        case rel => exact ⟨k + 1, by omega, by go_num, bdN HBW.out _, HF.out⟩
        case measure => simp [intOf]; omega
      · have e1 : (z == z') = false := by simp [h1]
        have e2 : (z != z') = true := by simp [h1]
        have HF := Lib.hid (show res = false by rw [← HN.out, hda.out, hdb.out]; simp [h1])
        clear h1
        go_wp2_with fail
        go_quiet (fail)
        go_wp2
        go_ret
        exact ⟨ret_bool HF.out.symm, bdN HBW.out _⟩
    · have HF := Lib.hid (show res = true by rw [← HN.out, List.drop_eq_nil_of_le (by have := HNA.out; omega), List.drop_eq_nil_of_le (by have := HNB.out; omega)]; simp)
      clear hbw
      go_wp2
      go_ret
      exact ⟨ret_bool HF.out.symm, HBW.out⟩
end W
end Go.Proofs.YtfigidknocpdaaaDoor
