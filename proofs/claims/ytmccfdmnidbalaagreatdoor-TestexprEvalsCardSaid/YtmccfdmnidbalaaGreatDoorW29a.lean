/- Chapter 29: integers and their comparison. -/
import Derived.Test.YtmccfdmnidbalaaGreatDoorShelf
import Derived.Test.YtmccfdmnidbalaaGreatDoorS2
import Derived.Test.YtmccfdmnidbalaaGreatDoorP29c
import Derived.Test.YtmccfdmnidbalaaGreatDoorP29d
namespace Go.Proofs.YtmccfdmnidbalaaGreatDoor
open Go.RowKit K
namespace W
theorem btr {a b c : World} (h : Below a.heap.size a b) (k : Below b.heap.size b c) : Below a.heap.size a c := h.trans (k.mono h.size)
theorem balloc (w : World) (o : Obj) : Below w.heap.size w (w.alloc o) := (Below.refl _ _).alloc (Nat.le_refl _) _
/-- What the walks want of the world: the library's variables. -/
structure Env (w : World) : Prop where
  maxlen : ∃ m, w.cell? ⟨2, 0, none⟩ = some (.int .i64 m)
  range : ∃ te pe, w.cell? ⟨1, 0, none⟩ = some (.iface te pe)
theorem lt_cell {w : World} {g o : Nat} {v : Value} (h : w.cell? ⟨g, o, none⟩ = some v) : g < w.heap.size := by
  rcases Nat.lt_or_ge g w.heap.size with h' | h'
  · exact h'
  · simp [World.cell?, Array.getElem?_eq_none h'] at h
theorem Env.below {w w' : World} (h : Env w) (hb : Below w.heap.size w w') : Env w' := by
  obtain ⟨⟨m, h1⟩, te, pe, h2⟩ := h
  exact ⟨⟨m, (hb.cell (p := ⟨2, 0, none⟩) (lt_cell h1)).trans h1⟩, te, pe, (hb.cell (p := ⟨1, 0, none⟩) (lt_cell h2)).trans h2⟩
theorem Compare_any (m n : Int) (w : World) :
    Calls Tryz.prog 43 #[.int .i64 m, .int .i64 n] w fun e w' => e = .returned (.int .i64 (P.sgnI (m - n))) ∧ w = w' := by
  have HN := Lib.hid (show ∀ z w, Calls Tryz.prog 53 #[.int .i64 z] w fun e w' => e = .returned (.bool false) ∧ w = w' from fun z w => by
    have e1 : (z != z) = false := by simp
    go_enter Tryz.func53, Tryz.ntmps53
    go_wp2
    go_ret
    exact ⟨rfl, rfl⟩)
  by_cases h1 : m < n
  · have HF := Lib.hid (show P.sgnI (m - n) = -1 by unfold P.sgnI; rw [if_pos (by omega)])
    generalize P.sgnI (m - n) = z at HF
    go_enter Tryz.func43, Tryz.ntmps43
    go_wp2_with fail; refine (HN.out _ _).mono ?_; rintro e w1 ⟨rfl, rfl⟩
    go_wp2_with fail; refine (HN.out _ _).mono ?_; rintro e w1 ⟨rfl, rfl⟩
    go_wp2
    go_ret
    exact ⟨ret_int HF.out.symm, rfl⟩
  · by_cases h2 : n < m
    · have HF := Lib.hid (show P.sgnI (m - n) = 1 by unfold P.sgnI; rw [if_neg (by omega), if_pos (by omega)])
      generalize P.sgnI (m - n) = z at HF
      go_enter Tryz.func43, Tryz.ntmps43
      go_wp2_with fail; refine (HN.out _ _).mono ?_; rintro e w1 ⟨rfl, rfl⟩
      go_wp2_with fail; refine (HN.out _ _).mono ?_; rintro e w1 ⟨rfl, rfl⟩
      go_wp2
      go_ret
      exact ⟨ret_int HF.out.symm, rfl⟩
    · have HF := Lib.hid (show P.sgnI (m - n) = 0 by unfold P.sgnI; rw [if_neg (by omega), if_neg (by omega)])
      generalize P.sgnI (m - n) = z at HF
      go_enter Tryz.func43, Tryz.ntmps43
      go_wp2_with fail; refine (HN.out _ _).mono ?_; rintro e w1 ⟨rfl, rfl⟩
      go_wp2_with fail; refine (HN.out _ _).mono ?_; rintro e w1 ⟨rfl, rfl⟩
      go_wp2
      go_ret
      exact ⟨ret_int HF.out.symm, rfl⟩
end W
namespace P
theorem sgn_bt (s : List UInt8) : sgn? s = decide (s ≠ [] ∧ (bt s 0 = 43 ∨ bt s 0 = 45)) := by
  cases s with
  | nil => simp [sgn?]
  | cons c r =>
    unfold sgn?
    rw [head_cons, head_cons]
    simp [bt]
    by_cases h1 : c.toNat = 43
    · simp [h1]
    · by_cases h2 : c.toNat = 45
      · simp [h2]
      · simp [h1, h2]
        omega
theorem dig_at (l : List UInt8) (k : Nat) : isDig (l.getD k 0) = decide (48 ≤ bt l k ∧ bt l k ≤ 57) := by
  unfold isDig bt
  rw [Bool.eq_iff_iff]
  simp
  omega
def digAt (l : List UInt8) (k : Nat) : Bool := (l.drop k).all isDig
theorem digAt_no {l : List UInt8} {k : Nat} (h : k < l.length) (hc : bt l k < 48 ∨ 57 < bt l k) : digAt l k = false := by
  unfold digAt
  rw [List.drop_eq_getElem_cons h, List.all_cons]
  have := dig_at l k
  rw [List.getD_eq_getElem?_getD, List.getElem?_eq_getElem h] at this
  simp only [Option.getD_some] at this
  rw [this]
  have : ¬ (48 ≤ bt l k ∧ bt l k ≤ 57) := by omega
  simp [this]
theorem digAt_yes {l : List UInt8} {k : Nat} (h : k < l.length) (h1 : ¬ bt l k < 48) (h2 : ¬ 57 < bt l k) : digAt l k = digAt l (k + 1) := by
  unfold digAt
  rw [List.drop_eq_getElem_cons h, List.all_cons]
  have := dig_at l k
  rw [List.getD_eq_getElem?_getD, List.getElem?_eq_getElem h] at this
  simp only [Option.getD_some] at this
  rw [this]
  have : 48 ≤ bt l k ∧ bt l k ≤ 57 := by omega
  simp [this]
def intB (s : List UInt8) : Bool := (intP s).isSome
end P
namespace W
/-- integer: the number, or none. -/
def IPost (w : World) (s : List UInt8) (e : Ending) (w' : World) : Prop := e = .returned (.tuple #[.int .i64 ((P.intP s).getD 0), .bool (P.intB s)]) ∧ Below w.heap.size w w'
end W
end Go.Proofs.YtmccfdmnidbalaaGreatDoor
