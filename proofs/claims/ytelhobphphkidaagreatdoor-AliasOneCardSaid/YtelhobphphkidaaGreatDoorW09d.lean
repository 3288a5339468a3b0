/- Chapter 9: place. -/
import Derived.Test.YtelhobphphkidaaGreatDoorW09c
namespace Go.Proofs.YtelhobphphkidaaGreatDoor
open Go.RowKit K
namespace AL
theorem cmp_neg : ∀ a b : Str, Lib.compareBytes a b < 0 ↔ a < b
  | [], [] => by simp [Lib.compareBytes]
  | [], _ :: _ => by simp [Lib.compareBytes]
  | _ :: _, [] => by simp [Lib.compareBytes]
  | x :: a, y :: b => by
    rw [Lib.compareBytes, List.cons_lt_cons_iff]
    by_cases h1 : x < y
    · rw [if_pos h1]; simp [h1]
    rw [if_neg h1]
    by_cases h2 : y < x
    · rw [if_pos h2]
      have : x ≠ y := by rintro rfl; exact h1 h2
      simp [h1, this]
    · rw [if_neg h2]
      have : x = y := by
        have h3 : ¬ x.toNat < y.toNat := fun h => h1 (UInt8.lt_iff_toNat_lt.2 h)
        have h4 : ¬ y.toNat < x.toNat := fun h => h2 (UInt8.lt_iff_toNat_lt.2 h)
        exact UInt8.toNat_inj.1 (by omega)
      simp [this, cmp_neg a b]
theorem cmp_zero : ∀ a b : Str, Lib.compareBytes a b = 0 ↔ a = b
  | [], [] => by simp [Lib.compareBytes]
  | [], _ :: _ => by simp [Lib.compareBytes]
  | _ :: _, [] => by simp [Lib.compareBytes]
  | x :: a, y :: b => by
    rw [Lib.compareBytes, List.cons.injEq]
    by_cases h1 : x < y
    · rw [if_pos h1]
      have : x ≠ y := by rintro rfl; exact absurd h1 (by rw [UInt8.lt_iff_toNat_lt]; omega)
      simp [this]
    rw [if_neg h1]
    by_cases h2 : y < x
    · rw [if_pos h2]
      have : x ≠ y := by rintro rfl; exact h1 h2
      simp [this]
    · rw [if_neg h2]
      have : x = y := by
        have h3 : ¬ x.toNat < y.toNat := fun h => h1 (UInt8.lt_iff_toNat_lt.2 h)
        have h4 : ¬ y.toNat < x.toNat := fun h => h2 (UInt8.lt_iff_toNat_lt.2 h)
        exact UInt8.toNat_inj.1 (by omega)
      simp [this, cmp_zero a b]
/-- Where a name lies, or would lie, in a list in order. -/
theorem at_pos {l : List Al} (h : Sorted l) (n : Str) : (low l n).length ≤ l.length ∧ (∀ (t : Nat) (a : Al), l[t]? = some a → (a.1 < n ↔ t < (low l n).length)) ∧ (∀ a : Al, l[(low l n).length]? = some a → (a.1 = n ↔ (get l n).isSome = true)) ∧ ((low l n).length = l.length → get l n = none) := by
  obtain ⟨A, B, s⟩ := split n h
  have hlow := s.low_eq
  have hlen := s.len
  rw [hlow]
  have hhi : ∀ (t : Nat) (a : Al), ((match get l n with | none => [] | some v => [(n, v)]) ++ B)[t]? = some a → ¬ a.1 < n := by
    intro t a ha
    have hm := List.mem_of_getElem? ha
    rcases List.mem_append.1 hm with h1 | h1
    · cases hg : get l n with
      | none => rw [hg] at h1; simp at h1
      | some v => rw [hg] at h1; simp at h1; subst h1; exact List.lt_irrefl _
    · intro h2; exact List.lt_irrefl _ (List.lt_trans h2 (s.high a h1))
  refine ⟨by omega, fun t a ha => ?_, fun a ha => ?_, fun he => ?_⟩
  · rw [s.eq] at ha
    by_cases ht : t < A.length
    · rw [List.getElem?_append_left ht] at ha
      exact ⟨fun _ => ht, fun _ => s.low a (List.mem_of_getElem? ha)⟩
    · rw [List.getElem?_append_right (by omega)] at ha
      exact ⟨fun h1 => absurd h1 (hhi _ a ha), fun h1 => absurd h1 ht⟩
  · rw [s.eq, List.getElem?_append_right (Nat.le_refl _), Nat.sub_self] at ha
    cases hg : get l n with
    | none =>
      rw [hg, List.nil_append] at ha
      have := s.high a (List.mem_of_getElem? ha)
      constructor
      · intro e; rw [e] at this; exact absurd this (List.lt_irrefl _)
      · intro e; simp at e
    | some v =>
      rw [hg] at ha
      simp at ha
      rw [← ha]
      simp
  · cases hg : get l n with
    | none => rfl
    | some v => rw [hg] at hlen; simp at hlen; omega
end AL
namespace W
theorem placeF_any (a n : List UInt8) (b : List UInt8) (w : World) : Calls Tryz.prog 42 #[.agg #[.string ⟨a.toArray⟩, .string ⟨b.toArray⟩], .string ⟨n.toArray⟩] w fun e w' => e = .returned (.int .i64 (Lib.compareBytes a n)) ∧ Below w.heap.size w w' := by
  have HC := Lib.hid (fun V => Tryz.strings_Compare ⟨a.toArray⟩ ⟨n.toArray⟩ V)
  have a0 := Lib.cell_of_heap (al_new w (.cells #[.string ⟨a.toArray⟩, .string ⟨b.toArray⟩] 47)) 0
  have HB := Lib.hid (balloc w (.cells #[.string ⟨a.toArray⟩, .string ⟨b.toArray⟩] 47))
  go_enter Tryz.func42, Tryz.ntmps42
  go_wp2_with fail
  refine (HC.out _).mono ?_
  rintro e w1 ⟨rfl, rfl⟩
  go_wp2
  go_ret
  exact ⟨rfl, HB.out⟩
set_option maxRecDepth 100000 in
set_option maxHeartbeats 4000000 in
theorem bs_any (l : List AL.Al) (n : List UInt8) (v : Value) (w : World) (hA : AS w v l) (hs : AL.Sorted l) (hl : l.length ≤ 64) :
    Calls Tryz.prog 41 #[v, .string ⟨n.toArray⟩, .func (Fn.func 42) #[] #[]] w fun e w' => e = .returned (.tuple #[.int .i64 ((AL.low l n).length : Nat), .bool (AL.get l n).isSome]) ∧ Below w.heap.size w w' := by
  obtain ⟨A, c, rfl⟩ := hA.slice
  obtain ⟨p1, p2, p3, p4⟩ := AL.at_pos hs n
  obtain ⟨p, hp⟩ : ∃ p, p = (AL.low l n).length := ⟨_, rfl⟩
  obtain ⟨f, hf⟩ : ∃ f, f = (AL.get l n).isSome := ⟨_, rfl⟩
  rw [← hp] at p1 p2 p3 p4 ⊢
  rw [← hf] at p3 ⊢
  obtain ⟨m, hm⟩ : ∃ m, m = l.length := ⟨_, rfl⟩
  have HM := Lib.hid hm
  rw [← hm] at p1 p4 hl ⊢
  have m0 : (0 : Int) ≤ (m : Int) := by omega
  have m64 : (m : Int) ≤ 64 := by omega
  have HP1 := Lib.hid p1
  have HP2 := Lib.hid p2
  have HP3 := Lib.hid p3
  have HP4 := Lib.hid (show p = m → f = false from fun e => by rw [hf, p4 e]; rfl)
  have HA := Lib.hid hA
  have HF := Lib.hid (fun a b V => placeF_any a n b V)
  clear hA p1 p2 p3 p4 hs hl hp hf hm
  go_enter Tryz.func41, Tryz.ntmps41
  go_wp2
  go_loopg [9, 10] m (fun g x y wr => ∃ lo hi : Nat, x = .int .i64 lo ∧ y = .int .i64 hi ∧ lo ≤ p ∧ p ≤ hi ∧ hi ≤ m ∧ g = hi - lo ∧ Hid (Below w.heap.size w wr))
  case atStart => exact ⟨0, m, rfl, rfl, Nat.zero_le _, HP1.out, Nat.le_refl _, by omega, Lib.hid (Below.refl _ _)⟩
  case round =>
    obtain ⟨lo, hi, rfl, rfl, h1, h2, h3, rfl, HB⟩ := hrel
    by_cases hlt : lo < hi
    · have hlt2 : (lo : Int) < (hi : Int) := by omega
      obtain ⟨⟨nm, vl⟩, b, off, ha, rfl, hb, c0, c1⟩ := (HA.out.go HB.out).get (k := (lo + hi) / 2) (by have := HM.out; omega)
      dsimp only at c0 c1
      have hi2 := HP2.out _ _ ha
      dsimp only at hi2
      have HI := Lib.hid hi2
      have HH := Lib.hid (And.intro h1 (And.intro h2 (And.intro h3 hlt)))
      obtain ⟨R, hR⟩ : ∃ R, Lib.compareBytes nm n = R := ⟨_, rfl⟩
      have HN := Lib.hid (show (R < 0 ↔ nm < n) from hR ▸ AL.cmp_neg nm n)
      have HFF := Lib.hid (fun V => show Calls Tryz.prog 42 #[.agg #[.string ⟨nm.toArray⟩, .string ⟨vl.toArray⟩], .string ⟨n.toArray⟩] V (fun e w' => e = .returned (.int .i64 R) ∧ Below V.heap.size V w') from hR ▸ HF.out nm vl V)
      clear ha hi2 hR
      by_cases hneg : R < 0
      · have HLO := Lib.hid (show (lo + hi) / 2 < p from HI.out.1 (HN.out.1 hneg))
        go_wp2_with fail
        refine (HFF.out _).mono ?_
        rintro e w1 ⟨rfl, hb1⟩
        have HB1 := Lib.hid (btr HB.out hb1)
        clear hb1
        go_wp2
        go_roundg (hi - ((lo + hi) / 2 + 1))
        case measure => have := HH.out; omega
        case rel => exact ⟨(lo + hi) / 2 + 1, hi, by first | go_num | (simp; unfold RowKit.wrap64; omega), rfl, by have := HLO.out; omega, by have := HH.out; omega, by have := HH.out; omega, rfl, HB1⟩
      · have HLO := Lib.hid (show p ≤ (lo + hi) / 2 from by
          rcases Nat.lt_or_ge ((lo + hi) / 2) p with h | h
          · exact absurd (HN.out.2 (HI.out.2 h)) hneg
          · exact h)
        go_wp2_with fail
        refine (HFF.out _).mono ?_
        rintro e w1 ⟨rfl, hb1⟩
        have HB1 := Lib.hid (btr HB.out hb1)
        clear hb1
        go_wp2
        go_roundg ((lo + hi) / 2 - lo)
        case measure => have := HH.out; omega
        case rel => exact ⟨lo, (lo + hi) / 2, rfl, by first | rfl | go_num | (simp; omega), by have := HH.out; omega, HLO.out, by have := HH.out; omega, rfl, HB1⟩
    · have hlt2 : ¬ (lo : Int) < (hi : Int) := by omega
      obtain rfl : lo = p := by omega
      by_cases hend : lo < m
      · have hend2 : (lo : Int) < (m : Int) := by omega
        obtain ⟨⟨nm, vl⟩, b, off, ha, rfl, hb, c0, c1⟩ := (HA.out.go HB.out).get (k := lo) (by have := HM.out; omega)
        dsimp only at c0 c1
        have hi3 := HP3.out _ ha
        dsimp only at hi3
        obtain ⟨R, hR⟩ : ∃ R, Lib.compareBytes nm n = R := ⟨_, rfl⟩
        have HFF := Lib.hid (fun V => show Calls Tryz.prog 42 #[.agg #[.string ⟨nm.toArray⟩, .string ⟨vl.toArray⟩], .string ⟨n.toArray⟩] V (fun e w' => e = .returned (.int .i64 R) ∧ Below V.heap.size V w') from hR ▸ HF.out nm vl V)
        have HZ := Lib.hid (show (R == 0) = f by rw [Bool.eq_iff_iff, beq_iff_eq, ← hR, AL.cmp_zero]; exact hi3)
        clear ha hi3 hR
        go_wp2_with fail
        refine (HFF.out _).mono ?_
        rintro e w1 ⟨rfl, hb1⟩
        have HB1 := Lib.hid (btr HB.out hb1)
        have hz := HZ.out
        clear hb1
        go_wp2
        go_ret2
        exact ⟨rfl, HB1.out⟩
      · have hend2 : ¬ (lo : Int) < (m : Int) := by omega
        have HFL := Lib.hid (HP4.out (by omega))
        go_wp2
        go_ret2
        rw [HFL.out]
        exact ⟨rfl, HB.out⟩
theorem place_any (l : List AL.Al) (n : List UInt8) (v : Value) (w : World) (hA : AS w v l) (hs : AL.Sorted l) (hl : l.length ≤ 64) :
    Calls Tryz.prog 27 #[v, .string ⟨n.toArray⟩] w fun e w' => e = .returned (.tuple #[.int .i64 ((AL.low l n).length : Nat), .bool (AL.get l n).isSome]) ∧ Below w.heap.size w w' := by
  obtain ⟨A, c, rfl⟩ := hA.slice
  have HC := Lib.hid (bs_any l n _ w hA hs hl)
  clear hA hs
  go_enter Tryz.func27, Tryz.ntmps27
  go_wp2_with fail
  refine HC.out.mono ?_
  rintro e w1 ⟨rfl, hb⟩
  have HB := Lib.hid hb
  clear hb
  go_wp2
  go_ret2
  exact ⟨rfl, HB.out⟩
end W
end Go.Proofs.YtelhobphphkidaaGreatDoor
