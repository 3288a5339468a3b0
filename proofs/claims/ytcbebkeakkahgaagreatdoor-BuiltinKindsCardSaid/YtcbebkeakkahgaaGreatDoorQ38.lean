/- Names and numbers of chapter 1 (out of my texts on it). -/
import Derived.Test.YtcbebkeakkahgaaGreatDoorP01b
import Derived.Test.YtcbebkeakkahgaaGreatDoorE00
namespace Go.Proofs.YtcbebkeakkahgaaGreatDoor
open Go.RowKit K
namespace W

theorem letter_any (c : Int) (w : World) :
    Calls Tryz.prog 100 #[.int .i32 c] w fun e w' => e = .returned (.bool (P.lt c)) ∧ w = w' := by
  go_enter Tryz.func100, Tryz.ntmps100
  go_wp2
  all_goals go_ret
  all_goals exact ⟨ret_bool (by rw [Bool.eq_iff_iff]; simp [P.lt]; omega), rfl⟩
theorem digit_any (c : Int) (w : World) :
    Calls Tryz.prog 101 #[.int .i32 c] w fun e w' => e = .returned (.bool (P.dg c)) ∧ w = w' := by
  go_enter Tryz.func101, Tryz.ntmps101
  go_wp2
  all_goals go_ret
  all_goals exact ⟨ret_bool (by rw [Bool.eq_iff_iff]; simp [P.dg]; try omega), rfl⟩
theorem Name_any (l : List UInt8) (w : World) (hl : l.length ≤ 1000000000) :
    Calls Tryz.prog 56 #[.string ⟨l.toArray⟩] w fun e w' => e = .returned (.bool (P.nameB l)) ∧ Below w.heap.size w w' := by
  go_enter Tryz.func56, Tryz.ntmps56
  by_cases h0 : l.length < 1
  · go_wp2
    go_ret
    exact ⟨ret_bool (by have : l = [] := List.eq_nil_of_length_eq_zero (by omega)
                        subst this; rfl), Below.refl _ _⟩
  rcases Nat.lt_or_ge 32 l.length with h32 | h32
  · go_wp2
    go_ret
    exact ⟨ret_bool (by simp [P.nameB]; omega), Below.refl _ _⟩
  have hpos : 0 < l.length := by omega
  rw [P.nameFrom_zero l hpos h32]
  go_wp2
  go_loopw [] (fun wr => ∃ pos : Nat, pos ≤ l.length ∧ wr.heap[w.heap.size]? = some (.stringIter ⟨l.toArray⟩ pos) ∧ Below w.heap.size w wr ∧ P.nameFrom l 0 = P.nameFrom l pos) (fun wr => l.length - wr.iterPos w.heap.size)
  case atStart =>
    refine ⟨0, by omega, ?_, (Below.refl _ w).alloc (Nat.le_refl _) _, rfl⟩
    have := World.iter_heap w ⟨l.toArray⟩ 0
    simpa using this
  case round =>
    obtain ⟨pos, hk, hit, hbw, hno⟩ := hrel
    have HN := Lib.hid hno
    clear hno
    by_cases hlt : pos < l.length
    · obtain ⟨c, hc⟩ : ∃ c, bt l pos = c := ⟨_, rfl⟩
      have HC := Lib.hid hc
      by_cases ha : c < 128
      · have hnx := next_low (P := Tryz.prog) wr w.heap.size l pos hit hlt c hc ha
        clear hc
        have hit2 := Lib.hid (Lib.iterAt_heap wr w.heap.size ⟨l.toArray⟩ pos (pos + 1) hit)
        have hbw2 := Lib.hid (Lib.below_iterAt hbw (k := w.heap.size) (by omega) ⟨l.toArray⟩ (pos + 1))
        go_wp2_with (first | (go_at_call 100; refine (letter_any _ _).mono ?_; rintro e w' ⟨rfl, rfl⟩) | (go_at_call 101; refine (digit_any _ _).mono ?_; rintro e w' ⟨rfl, rfl⟩))
        all_goals first
          | (go_ret
             exact ⟨ret_bool (by go_light; rw [HN.out, P.nameFrom_stop hlt HC.out (by simp_all)]), hbw2.out⟩)
          | (go_roundw
             case rel => exact ⟨pos + 1, by omega, hit2.out, hbw2.out, by go_light; rw [HN.out, P.nameFrom_step hlt HC.out (by simp_all)]⟩
             case measure => simp only [World.iterPos, hit2.out, hit]; omega)
      · obtain ⟨r, d, hr, hr2, hd, hnx⟩ := next_high (P := Tryz.prog) wr w.heap.size l pos hit hlt (by omega)
        clear hc
        have hbw2 := Lib.hid (Lib.below_iterAt hbw (k := w.heap.size) (by omega) ⟨l.toArray⟩ (pos + d))
        have h1 := P.lt_high r (by omega)
        have h2 := P.dg_high r (by omega)
        have h3 : ((r : Int) == 95) = false := by simp; omega
        go_wp2_with (first | (go_at_call 100; refine (letter_any _ _).mono ?_; rintro e w' ⟨rfl, rfl⟩) | (go_at_call 101; refine (digit_any _ _).mono ?_; rintro e w' ⟨rfl, rfl⟩))
        go_ret
        exact ⟨ret_bool (by go_light; rw [HN.out, P.nameFrom_stop hlt HC.out (by rw [P.lt_high c (by omega), P.dg_high c (by omega)]; simp; omega)]), hbw2.out⟩
    · have hnx := next_end (P := Tryz.prog) wr w.heap.size l pos hit hlt
      go_wp2
      go_ret
      exact ⟨ret_bool (by rw [HN.out, P.nameFrom_end hpos hlt]), hbw⟩
/-- A number or nothing, as Go returns it. -/
def optInt (o : Option Int) : Ending := .returned (.tuple #[.int .i64 (o.getD 0), .bool o.isSome])
theorem optInt_none {o : Option Int} (h : o = none) : Ending.returned (.tuple #[.int .i64 0, .bool false]) = optInt o := by rw [h]; rfl
theorem optInt_some {o : Option Int} {n : Int} (h : o = some n) : Ending.returned (.tuple #[.int .i64 n, .bool true]) = optInt o := by rw [h]; rfl

theorem Digits_any (l : List UInt8) (w : World) (hl : l.length ≤ 1000000000) :
    Calls Tryz.prog 76 #[.string ⟨l.toArray⟩] w fun e w' => e = optInt (P.digitsI l) ∧ Below w.heap.size w w' := by
  by_cases h1 : l = [48]
  · subst h1
    go_enter Tryz.func76, Tryz.ntmps76
    go_wp2
    go_ret2
    exact ⟨rfl, Below.refl _ _⟩
  by_cases h0 : l = []
  · subst h0
    go_enter Tryz.func76, Tryz.ntmps76
    go_wp2
    go_ret2
    exact ⟨rfl, Below.refl _ _⟩
  have hpos : 0 < l.length := by cases l; simp at h0; simp
  have hne : l.isEmpty = false := by cases l; simp at h0; simp
  have h48 : (l == [48]) = false := by simpa using h1
  clear h1
  by_cases hz : (bt l 0 == 48) = true
  · have HG : Hid (P.digitsI l = none) := by show P.digitsI l = none; simp [P.digitsI, h48, hz]
    go_enter Tryz.func76, Tryz.ntmps76
    go_wp2
    go_ret2
    exact ⟨optInt_none HG.out, Below.refl _ _⟩
  have hz' : (bt l 0 == 48) = false := by simpa using hz
  clear hz
  have hG : P.digitsI l = P.dloop 0 l := by simp [P.digitsI, h48, hne, hz']
  rw [hG]
  clear hG
  obtain ⟨o, ho⟩ : ∃ o, P.dloop 0 l = o := ⟨_, rfl⟩
  rw [ho]
  have HO := Lib.hid ho
  clear ho
  go_enter Tryz.func76, Tryz.ntmps76
  go_wp2
  go_loopw [4] (fun n wr => ∃ (pos : Nat) (m : Int), pos ≤ l.length ∧ n = .int .i64 m ∧ 0 ≤ m ∧ m ≤ 2147483647 ∧ wr.heap[w.heap.size]? = some (.stringIter ⟨l.toArray⟩ pos) ∧ Below w.heap.size w wr ∧ o = P.dloop m (l.drop pos)) (fun _ wr => l.length - wr.iterPos w.heap.size)
  case atStart =>
    refine ⟨0, 0, by omega, rfl, by omega, by omega, ?_, (Below.refl _ w).alloc (Nat.le_refl _) _, HO.out.symm⟩
    have := World.iter_heap w ⟨l.toArray⟩ 0
    simpa using this
  case round =>
    obtain ⟨pos, m, hk, rfl, hm0, hm1, hit, hbw, hno⟩ := hrel
    have HN := Lib.hid hno
    clear hno
    by_cases hlt : pos < l.length
    · obtain ⟨x, hx, hb, _⟩ := drop_cons l pos hlt
      have HX := Lib.hid hx
      clear hx
      obtain ⟨c, hc⟩ : ∃ c, bt l pos = c := ⟨_, rfl⟩
      have HB : Hid (P.iv x = c) := by rw [← hc, hb]; rfl
      clear hb
      by_cases ha : c < 128
      · have hnx := next_low (P := Tryz.prog) wr w.heap.size l pos hit hlt c hc ha
        clear hc
        have hit2 := Lib.hid (Lib.iterAt_heap wr w.heap.size ⟨l.toArray⟩ pos (pos + 1) hit)
        have hbw2 := Lib.hid (Lib.below_iterAt hbw (k := w.heap.size) (by omega) ⟨l.toArray⟩ (pos + 1))
        by_cases hd : P.dg c = true
        · have hd2 := (P.dg_iff _).1 hd
          by_cases hm : 2147483647 < 10 * m + (c - 48)
          · go_wp2_with (go_at_call 101; refine (digit_any _ _).mono ?_; rintro e w' ⟨rfl, rfl⟩)
            go_ret2
            exact ⟨optInt_none (by rw [HN.out, HX.out, P.dloop_big HB.out hd hm]), hbw2.out⟩
          · go_wp2_with (go_at_call 101; refine (digit_any _ _).mono ?_; rintro e w' ⟨rfl, rfl⟩)
            go_roundw
            case rel => exact ⟨pos + 1, 10 * m + (c - 48), by omega, rfl, by omega, by omega, hit2.out, hbw2.out, by rw [HN.out, HX.out, P.dloop_yes HB.out hd (by omega)]⟩
            case measure => simp only [World.iterPos, hit2.out, hit]; omega
        · have hd' : P.dg c = false := by simpa using hd
          clear hd
          go_wp2_with (go_at_call 101; refine (digit_any _ _).mono ?_; rintro e w' ⟨rfl, rfl⟩)
          go_ret2
          exact ⟨optInt_none (by rw [HN.out, HX.out, P.dloop_no HB.out hd']), hbw2.out⟩
      · obtain ⟨r, d, hr, hr2, hd, hnx⟩ := next_high (P := Tryz.prog) wr w.heap.size l pos hit hlt (by omega)
        clear hc
        have hbw2 := Lib.hid (Lib.below_iterAt hbw (k := w.heap.size) (by omega) ⟨l.toArray⟩ (pos + d))
        have h2 := P.dg_high r (by omega)
        go_wp2_with (go_at_call 101; refine (digit_any _ _).mono ?_; rintro e w' ⟨rfl, rfl⟩)
        go_ret2
        exact ⟨optInt_none (by rw [HN.out, HX.out, P.dloop_no HB.out (P.dg_high c (by omega))]), hbw2.out⟩
    · have hnx := next_end (P := Tryz.prog) wr w.heap.size l pos hit hlt
      have HE : Hid (l.drop pos = []) := List.drop_eq_nil_of_le (by omega)
      go_wp2
      go_ret2
      exact ⟨optInt_some (by rw [HN.out, HE.out]; rfl), hbw⟩

end W
end Go.Proofs.YtcbebkeakkahgaaGreatDoor
