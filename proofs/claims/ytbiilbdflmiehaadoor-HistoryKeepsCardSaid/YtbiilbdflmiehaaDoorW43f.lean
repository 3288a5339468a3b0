/- Chapter 43: Get, and the searches of the reference. -/
import Derived.Test.YtbiilbdflmiehaaDoorW43e
namespace Go.Proofs.YtbiilbdflmiehaaDoor
open Go.RowKit K
namespace W

/-- A string and an error's number. -/
def strNum (r : List UInt8 × Int) : Ending := .returned (.tuple #[.string ⟨r.1.toArray⟩, .int .i64 r.2])
def optNum (o : Option Int) : Ending := .returned (.tuple #[.int .i64 (o.getD 0), .bool o.isSome])

theorem Get_any (v : Value) (first : Int) (ls : List (List UInt8)) (n : Int) (w : World) (hV : HV w v first ls) (hn : ls.length ≤ 128) (hf1 : 1 ≤ first) (hf2 : first ≤ 2147483519) (hn1 : -9223372036854775808 ≤ n) (hn2 : n ≤ 9223372036854775807) :
    Calls Tryd.prog 18 #[v, .int .i64 n] w fun e w' => e = strNum (P.getH first ls n) ∧ Below w.heap.size w w' := by
  obtain ⟨A, c, rfl, _, _, _, hS⟩ := hV
  unfold hv
  obtain ⟨w0, h0, c0, c1, hb0, hsz0⟩ := box2 w (.int .i64 first) (.slice A ls.length c) 24
  have hS0 := hS.below hb0
  have H0 := Lib.hid h0
  clear h0
  by_cases hg : first ≤ n ∧ n < first + ls.length
  · obtain ⟨g1, g2⟩ := hg
    have HG := Lib.hid (show P.getH first ls n = (ls.getD (n - first).toNat [], 0) by unfold P.getH; rw [if_pos ⟨g1, g2⟩])
    obtain ⟨b, off, rfl, hb, hcell⟩ := hS0.get (k := (n - first).toNat) (by omega)
    have i0 : 0 ≤ n - first := by omega
    have i1 : n - first < (ls.length : Int) := by omega
    rw [H0.out] at hcell
    generalize ls.getD (n - first).toNat [] = s at *
    go_enter Tryd.func18, Tryd.ntmps18
    go_wp2
    rw [← H0.out]
    go_ret2
    exact ⟨by rw [HG.out]; rfl, hb0⟩
  · have HG := Lib.hid (show P.getH first ls n = ([], 8) by unfold P.getH; rw [if_neg hg])
    by_cases g1 : n < first
    · clear hg
      go_enter Tryd.func18, Tryd.ntmps18
      go_wp2
      rw [← H0.out]
      go_ret2
      exact ⟨by rw [HG.out]; rfl, hb0⟩
    · have g2 : (ls.length : Int) ≤ n - first := by omega
      have i0 : 0 ≤ n - first := by omega
      clear hg
      go_enter Tryd.func18, Tryd.ntmps18
      go_wp2
      rw [← H0.out]
      go_ret2
      exact ⟨by rw [HG.out]; rfl, hb0⟩

theorem Get_ref (v : Value) (first : Int) (ls : List (List UInt8)) (n : Int) (w : World) (hV : HV w v first ls) (hn : ls.length ≤ 128) (hf1 : 1 ≤ first) (hf2 : first ≤ 2147483519) :
    Calls Tryd.prog 19 #[v, .int .i64 n] w fun e w' => e = strNum (P.getH first ls n) ∧ Below w.heap.size w w' := by
  obtain ⟨A, c, rfl, _, _, _, hS⟩ := hV
  unfold hv
  obtain ⟨w0, h0, c0, c1, hb0, hsz0⟩ := box2 w (.int .i64 first) (.slice A ls.length c) 24
  have hS0 := hS.below hb0
  have H0 := Lib.hid h0
  clear h0
  obtain ⟨R, hR⟩ : ∃ R, P.getH first ls n = R := ⟨_, rfl⟩
  rw [hR]
  have HR := Lib.hid hR
  clear hR
  go_enter Tryd.func19, Tryd.ntmps19
  go_wp2
  rw [← H0.out]
  go_loop [6] (fun i => ∃ k : Nat, k ≤ ls.length ∧ i = .int .i64 k ∧ Hid (∀ j : Nat, j < k → first + j ≠ n)) (fun i => ls.length - (intOf i).toNat)
  case atStart => exact ⟨0, by omega, rfl, fun j hj => by omega⟩
  case round =>
    obtain ⟨k, hk, rfl, HN⟩ := hrel
    by_cases hlt : k < ls.length
    · by_cases hm : first + k = n
      · obtain ⟨b, off, rfl, hb, hcell⟩ := hS0.get hlt
        have HG := Lib.hid (show R = (ls.getD k [], 0) by
          rw [← HR.out]; unfold P.getH; rw [if_pos (by omega), show (n - first).toNat = k by omega])
        have e1 : (first + (k : Int) == n) = true := by simp [hm]
        generalize ls.getD k [] = s at *
        clear hm
        go_wp2
        go_ret2
        exact ⟨by rw [HG.out]; rfl, hb0⟩
      · have e1 : (first + (k : Int) == n) = false := by simp [hm]
        have hm' := Lib.hid hm
        clear hm
        go_wp2
        go_round
        case rel => exact ⟨k + 1, by omega, by go_num, fun j hj => by
          by_cases e : j = k
          · subst e; exact hm'.out
          · exact HN.out j (by omega)⟩
        case measure => simp [intOf]; omega
    · have HG := Lib.hid (show R = ([], 8) by
        rw [← HR.out]; unfold P.getH
        rw [if_neg]
        intro hg
        exact HN.out (n - first).toNat (by omega) (by omega))
      go_wp2
      go_ret2
      exact ⟨by rw [HG.out]; rfl, hb0⟩

theorem begins_ref (s t : List UInt8) (w : World) (_hs : s.length ≤ 1000000000) (_ht : t.length ≤ 1000000000) :
    Calls Tryd.prog 34 #[.string ⟨s.toArray⟩, .string ⟨t.toArray⟩] w fun e w' => e = .returned (.bool (P.begins s t)) ∧ w = w' := by
  by_cases h : t.length ≤ s.length
  · have HG := Lib.hid (show P.begins s t = (cut s 0 t.length == t) by unfold P.begins cut; simp [h])
    rw [HG.out]
    go_enter Tryd.func34, Tryd.ntmps34
    go_wp2
    all_goals go_ret
    all_goals exact ⟨ret_bool (by simp_all), rfl⟩
  · have HG := Lib.hid (show P.begins s t = false by unfold P.begins; simp [h])
    go_enter Tryd.func34, Tryd.ntmps34
    go_wp2
    go_ret
    exact ⟨ret_bool HG.out.symm, rfl⟩

theorem contains_ref (s t : List UInt8) (w : World) (hs : s.length ≤ 1000000000) (ht : t.length ≤ 1000000000) :
    Calls Tryd.prog 36 #[.string ⟨s.toArray⟩, .string ⟨t.toArray⟩] w fun e w' => e = .returned (.bool (P.contains s t)) ∧ w = w' := by
  obtain ⟨res, hres⟩ : ∃ res, P.contains s t = res := ⟨_, rfl⟩
  rw [hres]
  have HR := Lib.hid hres
  clear hres
  go_enter Tryd.func36, Tryd.ntmps36
  go_wp2
  go_loop [5] (fun i => ∃ (k f : Nat), k ≤ s.length + 1 ∧ i = .int .i64 k ∧ s.length + 1 ≤ k + f ∧ Hid (P.containsAt s t f k = res)) (fun i => s.length + 1 - (intOf i).toNat)
  case atStart => exact ⟨0, s.length + 1, by omega, rfl, by omega, HR.out⟩
  case round =>
    obtain ⟨k, f, hk, rfl, hf, HN⟩ := hrel
    by_cases hgo : k + t.length ≤ s.length
    · obtain ⟨f, rfl⟩ : ∃ g, f = g + 1 := ⟨f - 1, by omega⟩
      have HST := Lib.hid (show P.containsAt s t (f + 1) k = ((cut s k (k + t.length) == t) || P.containsAt s t f (k + 1)) by rw [P.containsAt, if_pos hgo])
      have g1 : ((k : Int) + (t.length : Int) ≤ (s.length : Int)) := by omega
      cases hq : (cut s k (k + t.length) == t)
      · have HQ := Lib.hid hq
        go_wp2
        go_round
        case rel => exact ⟨k + 1, f, by omega, by go_num, by omega, by show _ = _; rw [← HN.out, HST.out, HQ.out]; simp⟩
        case measure => simp [intOf]; omega
      · have HQ := Lib.hid hq
        go_wp2
        go_ret
        exact ⟨ret_bool (by rw [← HN.out, HST.out, HQ.out]; rfl), rfl⟩
    · have HST := Lib.hid (show P.containsAt s t f k = false by cases f with
        | zero => rfl
        | succ g => rw [P.containsAt, if_neg hgo])
      have g1 : ¬ ((k : Int) + (t.length : Int) ≤ (s.length : Int)) := by omega
      go_wp2
      go_ret
      exact ⟨ret_bool (by rw [← HN.out, HST.out]), rfl⟩
end W
end Go.Proofs.YtbiilbdflmiehaaDoor
