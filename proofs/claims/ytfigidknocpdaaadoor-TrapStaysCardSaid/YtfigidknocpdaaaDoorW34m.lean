/- Chapter 34: name, acts, disposition of the reference. -/
import Derived.Test.YtfigidknocpdaaaDoorW34e
import Derived.Test.YtfigidknocpdaaaDoorW34f
import Derived.Test.YtfigidknocpdaaaDoorW34i
namespace Go.Proofs.YtfigidknocpdaaaDoor
open Go.RowKit K
namespace P
def actsB (ts : List Tr) (sig : Int) : Bool := sig != 0 && (match look ts sig with | some s => s != [] | none => false)
def dispo (ts : List Tr) (sig : Int) (talks : Bool) : Int :=
  match look ts sig with
  | some s => if s = [] then 1 else 2
  | none => if talks then (if sig = 2 then 2 else if sig = 3 ∨ sig = 4 ∨ sig = 5 ∨ sig = 15 ∨ sig = 20 then 1 else 0) else 0
end P
namespace W
theorem name_ref (z : Int) (w : World) (h0 : 0 ≤ z) (h1 : z ≤ 20) :
    Calls Tryd.prog 48 #[.int .i64 z] w fun e w' => e = .returned (.string ⟨(P.trapName z).toArray⟩) ∧ w = w' := by
  obtain ⟨k, rfl⟩ := Int.eq_ofNat_of_zero_le h0
  have hk : k < 100 := by omega
  have HNA := Lib.hid (fun w => NameR_any (k : Int) w)
  have HI := Lib.hid (fun w => Itoa_k k w hk)
  by_cases hz : k = 0
  · subst hz
    clear HNA HI
    go_enter Tryd.func48, Tryd.ntmps48
    go_wp2
    go_ret
    exact ⟨rfl, rfl⟩
  · have hp : 0 < k := by omega
    have e0 : ((k : Int) == 0) = false := by simp; omega
    have HT := Lib.hid (show P.trapName (k : Int) = if P.nameL k = [] then Lib.itoa k else P.nameL k by unfold P.trapName; rw [if_neg (by omega)])
    generalize P.trapName (k : Int) = nm at HT
    generalize P.nameL (k : Int) = nl at HNA HT
    rcases List.eq_nil_or_concat nl with hs | hs
    · subst hs
      have HF := Lib.hid (show nm = Lib.itoa k by rw [HT.out, if_pos rfl])
      clear hz HT
      go_enter Tryd.func48, Tryd.ntmps48
      go_wp2_with fail; refine (HNA.out _).mono ?_; rintro e w1 ⟨rfl, rfl⟩
      go_wp2_with fail; refine (HI.out _).mono ?_; rintro e w1 ⟨rfl, rfl⟩
      go_wp2
      go_ret
      exact ⟨ret_str HF.out.symm, rfl⟩
    · have hs1 : nl ≠ [] := by rintro rfl; simp at hs
      have hs2 : nl.isEmpty = false := by cases nl; simp at hs1; rfl
      have HF := Lib.hid (show nm = nl by rw [HT.out, if_neg hs1])
      clear hz HT hs hs1
      go_enter Tryd.func48, Tryd.ntmps48
      go_wp2_with fail; refine (HNA.out _).mono ?_; rintro e w1 ⟨rfl, rfl⟩
      go_wp2_with fail; refine (HNA.out _).mono ?_; rintro e w1 ⟨rfl, rfl⟩
      go_wp2
      go_ret
      exact ⟨ret_str HF.out.symm, rfl⟩

set_option maxHeartbeats 1000000 in
theorem disposition_ref (v : Value) (ts : List Tr) (sig : Int) (talks : Bool) (w : World) (hV : TV w v ts) (hn : ts.length ≤ 1000000) :
    Calls Tryd.prog 41 #[v, .int .i64 sig, .bool talks] w fun e w' => e = .returned (.int .i64 (P.dispo ts sig talks)) ∧ w = w' := by
  have HF := Lib.hid (find_ref v ts sig w hV hn)
  obtain ⟨A, c, rfl, hc1, hc2, -, hT⟩ := hV
  rcases P.look_find ts sig with ⟨ha, hb⟩ | ⟨k, ha, hk, hc, hb⟩
  · rw [ha] at HF
    have HR := Lib.hid (show P.dispo ts sig talks = if talks then (if sig = 2 then 2 else if sig = 3 ∨ sig = 4 ∨ sig = 5 ∨ sig = 15 ∨ sig = 20 then 1 else 0) else 0 by unfold P.dispo; rw [hb])
    generalize P.dispo ts sig talks = R at HR
    clear ha hb hT
    cases talks
    · have HG := Lib.hid (show R = 0 from HR.out)
      clear HR
      go_enter Tryd.func41, Tryd.ntmps41
      go_wp2_with fail; refine (HF.out).mono ?_; rintro e w1 ⟨rfl, rfl⟩
      go_wp2
      go_ret
      exact ⟨ret_int HG.out.symm, rfl⟩
    · by_cases h2 : sig = 2
      · subst h2
        have HG := Lib.hid (show R = 2 by rw [HR.out]; rfl)
        clear HR
        go_enter Tryd.func41, Tryd.ntmps41
        go_wp2_with fail; refine (HF.out).mono ?_; rintro e w1 ⟨rfl, rfl⟩
        go_wp2
        go_ret
        exact ⟨ret_int HG.out.symm, rfl⟩
      · by_cases h5 : sig = 3 ∨ sig = 4 ∨ sig = 5 ∨ sig = 15 ∨ sig = 20
        · have HG := Lib.hid (show R = 1 by rw [HR.out, if_pos rfl, if_neg h2, if_pos h5])
          clear HR h2
          rcases h5 with rfl | rfl | rfl | rfl | rfl
          all_goals
            go_enter Tryd.func41, Tryd.ntmps41
            go_wp2_with fail; refine (HF.out).mono ?_; rintro e w1 ⟨rfl, rfl⟩
            go_wp2
            go_ret
            exact ⟨ret_int HG.out.symm, rfl⟩
        · have HG := Lib.hid (show R = 0 by rw [HR.out, if_pos rfl, if_neg h2, if_neg h5])
          have e2 : (sig == 2) = false := by simp; omega
          have e3 : (sig == 3) = false := by simp; omega
          have e4 : (sig == 4) = false := by simp; omega
          have e5 : (sig == 5) = false := by simp; omega
          have e15 : (sig == 15) = false := by simp; omega
          have e20 : (sig == 20) = false := by simp; omega
          clear HR h2 h5
          go_enter Tryd.func41, Tryd.ntmps41
          go_wp2_with fail; refine (HF.out).mono ?_; rintro e w1 ⟨rfl, rfl⟩
          go_wp2
          go_ret
          exact ⟨ret_int HG.out.symm, rfl⟩
  · rw [ha] at HF
    have HR := Lib.hid (show P.dispo ts sig talks = if (ts.getD k (0, [])).2 = [] then 1 else 2 by unfold P.dispo; rw [hb])
    generalize P.dispo ts sig talks = R at HR
    obtain ⟨b, off, rfl, hbl, hc0, hc1'⟩ := hT.get hk
    obtain ⟨⟨z, s⟩, ht⟩ : ∃ t, ts.getD k (0, []) = t := ⟨_, rfl⟩
    rw [ht] at HR hc0 hc1'
    simp only at hc0 hc1'
    have k0 : (0 : Int) ≤ (k : Int) := by omega
    clear ha hb hT ht hc
    rcases List.eq_nil_or_concat s with hs | hs
    · subst hs
      have HG := Lib.hid (show R = 1 by rw [HR.out]; rfl)
      clear HR
      go_enter Tryd.func41, Tryd.ntmps41
      go_wp2_with fail; refine (HF.out).mono ?_; rintro e w1 ⟨rfl, rfl⟩
      go_wp2
      go_ret
      exact ⟨ret_int HG.out.symm, rfl⟩
    · have hs1 : s ≠ [] := by rintro rfl; simp at hs
      have hs2 : s.isEmpty = false := by cases s; simp at hs1; rfl
      have HG := Lib.hid (show R = 2 by rw [HR.out]; exact if_neg hs1)
      clear HR hs hs1
      go_enter Tryd.func41, Tryd.ntmps41
      go_wp2_with fail; refine (HF.out).mono ?_; rintro e w1 ⟨rfl, rfl⟩
      go_wp2
      go_ret
      exact ⟨ret_int HG.out.symm, rfl⟩

set_option maxHeartbeats 1000000 in
theorem acts_ref (v : Value) (ts : List Tr) (sig : Int) (w : World) (hV : TV w v ts) (hn : ts.length ≤ 1000000) :
    Calls Tryd.prog 38 #[v, .int .i64 sig] w fun e w' => e = .returned (.bool (P.actsB ts sig)) ∧ w = w' := by
  have HF := Lib.hid (find_ref v ts sig w hV hn)
  obtain ⟨A, c, rfl, hc1, hc2, -, hT⟩ := hV
  obtain ⟨R, hR⟩ : ∃ R, P.actsB ts sig = R := ⟨_, rfl⟩
  rw [hR]
  have HR := Lib.hid hR
  clear hR
  obtain ⟨f, hf⟩ : ∃ f, P.find ts sig = f := ⟨_, rfl⟩
  by_cases h0 : sig = 0
  · subst h0
    have HG := Lib.hid (show R = false by rw [← HR.out]; rfl)
    rw [hf] at HF
    clear hf HR hT
    go_enter Tryd.func38, Tryd.ntmps38
    go_wp2_with fail; refine (HF.out).mono ?_; rintro e w1 ⟨rfl, rfl⟩
    go_wp2
    go_ret
    exact ⟨ret_bool HG.out.symm, rfl⟩
  · have e0 : (sig != 0) = true := by simp [h0]
    clear hf f
    rcases P.look_find ts sig with ⟨ha, hb⟩ | ⟨k, ha, hk, hc, hb⟩
    · rw [ha] at HF
      have HG := Lib.hid (show R = false by rw [← HR.out]; unfold P.actsB; rw [hb]; simp)
      clear HR ha hb hT h0
      go_enter Tryd.func38, Tryd.ntmps38
      go_wp2_with fail; refine (HF.out).mono ?_; rintro e w1 ⟨rfl, rfl⟩
      go_wp2
      go_ret
      exact ⟨ret_bool HG.out.symm, rfl⟩
    · rw [ha] at HF
      have HG := Lib.hid (show R = ((ts.getD k (0, [])).2 != []) by rw [← HR.out]; unfold P.actsB; rw [hb, e0]; rfl)
      obtain ⟨b, off, rfl, hbl, hc0, hc1'⟩ := hT.get hk
      obtain ⟨⟨z, s⟩, ht⟩ : ∃ t, ts.getD k (0, []) = t := ⟨_, rfl⟩
      rw [ht] at HG hc0 hc1'
      simp only at hc0 hc1'
      have k0 : (0 : Int) ≤ (k : Int) := by omega
      clear HR ha hb hT ht hc h0
      rcases List.eq_nil_or_concat s with hs | hs
      · subst hs
        have HH := Lib.hid (show R = false from HG.out)
        clear HG
        go_enter Tryd.func38, Tryd.ntmps38
        go_wp2_with fail; refine (HF.out).mono ?_; rintro e w1 ⟨rfl, rfl⟩
        go_wp2
        go_ret
        exact ⟨ret_bool HH.out.symm, rfl⟩
      · have hs1 : s ≠ [] := by rintro rfl; simp at hs
        have hs2 : s.isEmpty = false := by cases s; simp at hs1; rfl
        have HH := Lib.hid (show R = true by rw [HG.out]; simpa using hs1)
        clear HG hs hs1
        go_enter Tryd.func38, Tryd.ntmps38
        go_wp2_with fail; refine (HF.out).mono ?_; rintro e w1 ⟨rfl, rfl⟩
        go_wp2
        go_ret
        exact ⟨ret_bool HH.out.symm, rfl⟩
end W
end Go.Proofs.YtfigidknocpdaaaDoor
