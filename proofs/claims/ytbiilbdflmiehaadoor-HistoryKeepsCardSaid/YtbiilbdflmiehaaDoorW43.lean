/- Chapter 43: what the functions of history and of its reference compute: Small, feeds, Valid. -/
import Derived.Test.YtbiilbdflmiehaaDoorChecked
import Derived.Test.YtbiilbdflmiehaaDoorBld
import Derived.Test.YtbiilbdflmiehaaDoorS
import Derived.Test.YtbiilbdflmiehaaDoorP43
import Derived.Test.YtbiilbdflmiehaaDoorShelf
namespace Go.Proofs.YtbiilbdflmiehaaDoor
open Go.RowKit K
namespace W

/-- A history as a value. -/
def hv (first : Int) (A : Option Addr) (n c : Nat) : Value := .agg #[.int .i64 first, .slice A n c]

theorem feeds_ref (l : List UInt8) (w : World) (hl : l.length ≤ 1000000000) :
    Calls Tryd.prog 29 #[.string ⟨l.toArray⟩] w fun e w' => e = .returned (.bool (P.feeds l)) ∧ w = w' := by
  go_enter Tryd.func29, Tryd.ntmps29
  go_wp2
  go_loop [3] (fun i => ∃ k : Nat, k ≤ l.length ∧ i = .int .i64 k ∧ P.feeds (l.drop k) = P.feeds l) (fun i => l.length - (intOf i).toNat)
  case atStart => exact ⟨0, Nat.zero_le _, rfl, by simp⟩
  case round =>
    obtain ⟨k, hk, rfl, hno⟩ := hrel
    have HN := Lib.hid hno
    clear hno
    by_cases hlt : k < l.length
    · obtain ⟨x, hx, hb, _⟩ := drop_cons l k hlt
      have HX := Lib.hid hx
      have HB := Lib.hid hb
      clear hx hb
      go_wp2
      · rename_i h _
        go_ret
        exact ⟨ret_bool (by rw [← HN.out, HX.out]; rw [HB.out] at h; simp [P.feeds, h]), rfl⟩
      · rename_i h
        go_round
        case rel => exact ⟨k + 1, by omega, by go_num, by rw [← HN.out, HX.out]; rw [HB.out] at h; simp [P.feeds, h]⟩
        case measure => simp [intOf]; omega
    · go_wp2
      go_ret
      exact ⟨ret_bool (by rw [← HN.out, drop_end l k hlt]; rfl), rfl⟩

theorem Small_ref (first : Int) (A : Option Addr) (c : Nat) (ls : List (List UInt8)) (M : Nat) (w : World) (hn : ls.length ≤ 8796093022208) (hS : SL w A ls) (hs : ∀ s ∈ ls, s.length ≤ M) (hM : M ≤ 140737488351232) :
    Calls Tryd.prog 10 #[hv first A ls.length c] w fun e w' => e = .returned (.bool (P.small ls)) ∧ Below w.heap.size w w' := by
  unfold hv
  obtain ⟨res, hres⟩ : ∃ res, P.small ls = res := ⟨_, rfl⟩
  rw [hres]
  have HR := Lib.hid hres
  clear hres
  have HS := Lib.hid hs
  clear hs
  obtain ⟨Z, hZ⟩ : ∃ Z, Hid (Z = M + P.lim) := ⟨_, rfl⟩
  have hZ2 : (Z : Int) ≤ 140737488400000 := by have := hZ.out; unfold P.lim at this; omega
  obtain ⟨w0, h0, c0, c1, hb0, hsz0⟩ := box2 w (.int .i64 first) (.slice A ls.length c) 24
  have hS0 := hS.below hb0
  have H0 := Lib.hid h0
  clear h0
  go_enter Tryd.func10, Tryd.ntmps10
  go_wp2
  rw [← H0.out]
  go_loop [3, 4] (fun n i => ∃ (k m : Nat) (z : Int), k ≤ ls.length ∧ i = .int .i64 k ∧ n = .int .i64 z ∧ 0 ≤ z ∧ z ≤ Z ∧ Hid (z = m ∧ P.smallFrom ls m k = res)) (fun _ i => ls.length - (intOf i).toNat)
  case atStart => exact ⟨0, 0, 0, by omega, rfl, rfl, by omega, by omega, rfl, HR.out⟩
  case round =>
    obtain ⟨k, m, z, hk, rfl, rfl, hz0, hz1, HZ⟩ := hrel
    by_cases hgo : k < ls.length ∧ k < 140 ∧ m < P.lim
    · obtain ⟨h1, h2, h3⟩ := hgo
      have h4 : z < 30000 := by have := (P.lim_lt m).1 h3; have := HZ.out.1; omega
      obtain ⟨b, off, rfl, hb, hcell⟩ := hS0.get h1
      have hsz := HS.out (ls.getD k []) (P.getD_mem h1)
      have HST := Lib.hid (P.smallFrom_step h1 h2 h3)
      clear h3
      generalize ls.getD k [] = s at *
      have f2 : ((k : Int) < 140) = True := eq_true (by omega)
      have f3 : (z < 30000) = True := eq_true (by omega)
      have h2' := Lib.hid h2
      clear h2 h4
      go_wp2
      go_round
      case rel => exact ⟨k + 1, m + s.length, z + s.length, by omega, by go_num, rfl, by omega, by have := hZ.out; unfold P.lim at this; have := of_eq_true f3; omega, by have := HZ.out.1; omega, by rw [← HZ.out.2, HST.out]⟩
      case measure => simp [intOf]; omega
    · have HST := Lib.hid (P.smallFrom_stop hgo)
      have hcases : (¬ k < ls.length) ∨ (k < ls.length ∧ ¬ k < 140) ∨ (k < ls.length ∧ k < 140 ∧ ¬ z < 30000) := by have := P.lim_lt m; have := HZ.out.1; omega
      clear hgo
      rcases hcases with h1 | ⟨h1, h2⟩ | ⟨h1, h2, h3⟩
      case' inr.inl =>
        have f2 : ((k : Int) < 140) = False := eq_false (by omega)
        have h2' := Lib.hid h2
        clear h2
      case' inr.inr =>
        have f2 : ((k : Int) < 140) = True := eq_true (by omega)
        have f3 : (z < 30000) = False := eq_false (by omega)
        have h2' := Lib.hid h2
        have h3' := Lib.hid h3
        clear h2 h3
      all_goals
        go_wp2
        all_goals
          go_ret
          refine ⟨ret_bool ?_, hb0⟩
          rw [← HZ.out.2, HST.out, Bool.eq_iff_iff]
          have q1 := P.lim_lt m
          have q2 := HZ.out.1
          try have q3 := h2'.out
          try have q4 := h3'.out
          go_light
          simp
          try omega
end W
end Go.Proofs.YtbiilbdflmiehaaDoor
