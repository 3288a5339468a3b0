/- Chapter 29: names and paths of files. -/
import Derived.Test.YtmccfdmnidbalaaGreatDoorW29c
namespace Go.Proofs.YtmccfdmnidbalaaGreatDoor
open Go.RowKit K
namespace K
theorem own_below {w w' : World} {base : Nat} {e : TypeId} {size : Nat} {v : Value} {n : Nat} {xs : List Value} (h : w.ownsRow base e size v n xs) (hb : Below w.heap.size w w') : w'.ownsRow base e size v n xs := by
  refine ⟨h.1, ?_⟩
  rcases h.2 with hn | ⟨g, cap, cur, h1, h2, hg, rest⟩
  · exact .inl hn
  · exact .inr ⟨g, cap, cur, h1, h2, (hb.block g (Array.getElem?_eq_some_iff.1 hg).1).trans hg, rest⟩
theorem own_base {w : World} {base base' : Nat} {e : TypeId} {size : Nat} {v : Value} {n : Nat} {xs : List Value} (h : w.ownsRow base e size v n xs) (hb : base' ≤ base) : w.ownsRow base' e size v n xs := by
  refine ⟨h.1, ?_⟩
  rcases h.2 with hn | ⟨g, cap, cur, h1, h2, rest⟩
  · exact .inl hn
  · exact .inr ⟨g, cap, cur, h1, Nat.le_trans hb h2, rest⟩
end K
namespace P
theorem any2 (s : List UInt8) : Lib.containsAny s [47, 0] = s.any fun c => (c.toNat : Int) == 47 || (c.toNat : Int) == 0 := by
  unfold Lib.containsAny
  induction s with
  | nil => rfl
  | cons b l ih =>
    rw [List.any_cons, ← ih, Lib.indexAny]
    have hge := Lib.indexAny_ge [47, 0] l
    by_cases hb : ([47, 0] : List UInt8).contains b = true
    · rw [if_pos hb]
      have hb' : b = 47 ∨ b = 0 := by simpa using hb
      rcases hb' with rfl | rfl <;> simp
    · rw [if_neg hb]
      have hb' : ¬ (b = 47 ∨ b = 0) := by simpa using hb
      have h1 : ¬ (b.toNat : Int) = 47 := fun h => hb' (.inl (UInt8.toNat_inj.1 (by have : (47 : UInt8).toNat = 47 := rfl; omega)))
      have h2 : ¬ (b.toNat : Int) = 0 := fun h => hb' (.inr (UInt8.toNat_inj.1 (by have : (0 : UInt8).toNat = 0 := rfl; omega)))
      have e1 : ((b.toNat : Int) == 47) = false := by simpa using h1
      have e2 : ((b.toNat : Int) == 0) = false := by simpa using h2
      rw [e1, e2, Bool.or_false, Bool.false_or]
      by_cases hm : Lib.indexAny l [47, 0] = -1
      · rw [if_pos (by simpa using hm), hm]
      · rw [if_neg (by simpa using hm), decide_eq_decide]
        omega
end P
namespace W
/-- isName answers at s. -/
def NameOK (s : List UInt8) : Prop := ∀ w, Calls Tryz.prog 50 #[.string ⟨s.toArray⟩] w fun e w' => e = .returned (.bool (P.nameB s)) ∧ Below w.heap.size w w'
def AnyOK (s : List UInt8) : Prop := ∀ w, Calls Tryz.prog 59 #[.string ⟨s.toArray⟩, .string ⟨#[47, 0]⟩] w fun e w' => e = .returned (.bool (s.any fun c => (c.toNat : Int) == 47 || (c.toNat : Int) == 0)) ∧ Below w.heap.size w w'
theorem any_ascii (s : List UInt8) (hl : s.length ≤ 1000000) (ha : ∀ c ∈ s, c.toNat < 128) : AnyOK s := fun w => by
  refine (Tryz.strings_ContainsAny_laid ⟨s.toArray⟩ ⟨#[47, 0]⟩ w (by simp [ByteArray.size]; omega) (by decide) (fun j b hb => ha b (List.mem_of_getElem? (by simpa using hb))) (fun j b hb => ?_)).mono ?_
  · have : b ∈ ([47, 0] : List UInt8) := List.mem_of_getElem? (by simpa using hb)
    simp at this
    rcases this with rfl | rfl <;> decide
  · rintro e w' ⟨rfl, hb⟩
    exact ⟨ret_bool (by simpa using P.any2 s), hb⟩
theorem isName_of (s : List UInt8) (h : s.length ≤ 32 → AnyOK s) : NameOK s := fun w => by
  have HR := Lib.hid (show P.nameB s = (decide (1 ≤ s.length) && decide (s.length ≤ 32) && s != [46] && s != [46, 46] && !(s.any fun c => (c.toNat : Int) == 47 || (c.toNat : Int) == 0)) from rfl)
  generalize P.nameB s = R at HR
  by_cases h1 : 1 ≤ s.length
  case neg =>
    have e1 : ((1 : Int) ≤ (s.length : Int)) = False := eq_false (by omega)
    have HF := Lib.hid (show R = false by rw [HR.out, decide_eq_false h1]; rfl)
    clear h1 h
    go_enter Tryz.func50, Tryz.ntmps50
    go_wp2
    go_ret
    exact ⟨ret_bool HF.out.symm, Below.refl _ _⟩
  have e1 : ((1 : Int) ≤ (s.length : Int)) = True := eq_true (by omega)
  by_cases h2 : s.length ≤ 32
  case neg =>
    have e2 : ((s.length : Int) ≤ (32 : Int)) = False := eq_false (by omega)
    have HF := Lib.hid (show R = false by rw [HR.out, decide_eq_false h2]; simp)
    clear h1 h2 h
    go_enter Tryz.func50, Tryz.ntmps50
    go_wp2
    go_ret
    exact ⟨ret_bool HF.out.symm, Below.refl _ _⟩
  have e2 : ((s.length : Int) ≤ (32 : Int)) = True := eq_true (by omega)
  have HC := Lib.hid (h h2 w)
  clear h
  by_cases h3 : s = [46]
  · subst h3
    have HF := Lib.hid (show R = false by rw [HR.out]; rfl)
    go_enter Tryz.func50, Tryz.ntmps50
    go_wp2
    go_ret
    exact ⟨ret_bool HF.out.symm, Below.refl _ _⟩
  have e3 : (s != [46]) = true := by simpa using h3
  have d3 : (s == [46]) = false := by simpa using h3
  by_cases h4 : s = [46, 46]
  · subst h4
    have HF := Lib.hid (show R = false by rw [HR.out]; rfl)
    go_enter Tryz.func50, Tryz.ntmps50
    go_wp2
    go_ret
    exact ⟨ret_bool HF.out.symm, Below.refl _ _⟩
  have e4 : (s != [46, 46]) = true := by simpa using h4
  have d4 : (s == [46, 46]) = false := by simpa using h4
  have HF := Lib.hid (show R = !(s.any fun c => (c.toNat : Int) == 47 || (c.toNat : Int) == 0) by rw [HR.out, decide_eq_true h1, decide_eq_true h2, e3, e4]; simp)
  generalize (s.any fun c => (c.toNat : Int) == 47 || (c.toNat : Int) == 0) = T at HC HF
  clear h1 h2 h3 h4 HR
  go_enter Tryz.func50, Tryz.ntmps50
  go_wp2_with fail
  refine HC.out.mono ?_
  rintro e w1 ⟨rfl, hb1⟩
  have HB := Lib.hid hb1
  clear hb1
  go_wp2
  go_ret
  exact ⟨ret_bool HF.out.symm, HB.out⟩
/-- The pieces of a string, in a row of the call's own. -/
theorem Split_any (s : List UInt8) (w : World) (hl : s.length ≤ 1000000) (hw : Env w) :
    Calls Tryz.prog 49 #[.string ⟨s.toArray⟩, .string ⟨#[47]⟩] w fun e w' => e = .returned (.slice (some ⟨w.heap.size, 0, none⟩) (P.split47 s).length (P.split47 s).length) ∧ w'.ownsRow w.heap.size 9 1 (.slice (some ⟨w.heap.size, 0, none⟩) (P.split47 s).length (P.split47 s).length) (P.split47 s).length ((P.split47 s).map fun s => .string ⟨s.toArray⟩) ∧ Below w.heap.size w w' := by
  obtain ⟨m, hm⟩ := hw.maxlen
  refine (Tryz.strings_Split ⟨s.toArray⟩ ⟨#[47]⟩ m _ (by simp [ByteArray.size]; omega) hm (by decide)).mono ?_
  rintro e w1 ⟨rfl, rfl⟩
  rw [P.splitB_sl, P.countB_sl, List.map_map]
  have hlen := P.split47_len s
  refine ⟨rfl, ⟨by simp, .inr ⟨w.heap.size, _, _, rfl, Nat.le_refl _, heap_alloc_new w _, Nat.le_refl _, by unfold maxLen; omega, by simp, ?_⟩⟩, balloc _ _⟩
  simp only [Function.comp_def, Nat.mul_one]
  exact List.take_of_length_le (by simp)
end W
end Go.Proofs.YtmccfdmnidbalaaGreatDoor
