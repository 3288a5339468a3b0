/- Chapter 1: Digits, Plain and Quote, of chars and of its reference. -/
import Derived.Test.YtabhfodjfikdaaaDoorW01
namespace Go.Proofs.YtabhfodjfikdaaaDoor
open Go.RowKit K
namespace W

/-- A number or nothing, as Go returns it. -/
def optInt (o : Option Int) : Ending := .returned (.tuple #[.int .i64 (o.getD 0), .bool o.isSome])
theorem optInt_none {o : Option Int} (h : o = none) : Ending.returned (.tuple #[.int .i64 0, .bool false]) = optInt o := by rw [h]; rfl
theorem optInt_some {o : Option Int} {n : Int} (h : o = some n) : Ending.returned (.tuple #[.int .i64 n, .bool true]) = optInt o := by rw [h]; rfl

theorem Digits_ref (l : List UInt8) (w : World) (hl : l.length ≤ 1000000000) :
    Calls Tryd.prog 12 #[.string ⟨l.toArray⟩] w fun e w' => e = optInt (P.digits l) ∧ w = w' := by
  by_cases h0 : l = []
  · subst h0
    go_enter Tryd.func12, Tryd.ntmps12
    go_wp2
    go_ret2
    exact ⟨rfl, rfl⟩
  have hpos : 0 < l.length := by cases l; simp at h0; simp
  have hne : l.isEmpty = false := by cases l; simp at h0; simp
  rcases Nat.lt_or_ge 10 l.length with h10 | h10
  · go_enter Tryd.func12, Tryd.ntmps12
    go_wp2
    go_ret2
    exact ⟨optInt_none (by simp [P.digits, h10]), rfl⟩
  obtain ⟨c, hc⟩ : ∃ c, bt l 0 = c := ⟨_, rfl⟩
  have HC := Lib.hid hc
  by_cases hz : c = 48 ∧ 1 < l.length
  · have hz1 : (bt l 0 == 48) = true := by rw [hc]; simp [hz.1]
    have hz2 : 1 < l.length := hz.2
    have HG : Hid (P.digits l = none) := by show P.digits l = none; unfold P.digits; rw [if_pos]; simp [hz1, hz2]
    clear hc hz
    go_enter Tryd.func12, Tryd.ntmps12
    go_wp2
    go_ret2
    exact ⟨optInt_none HG.out, rfl⟩
  have HG : Hid (P.digits l = P.rloop 0 l) := by
    show P.digits l = _
    unfold P.digits
    rw [if_neg]
    simp [hne, hc]
    omega
  have main : ∀ (b1 : Bool), (bt l 0 == 48) = b1 → (b1 = true → l.length ≤ 1) → ∀ (o : Option Int), o = P.digits l → Calls Tryd.prog 12 #[.string ⟨l.toArray⟩] w fun e w' => e = optInt o ∧ w = w' := by
    intro b1 e1 e2 o ho
    clear hz hc
    have HO := Lib.hid ho
    clear ho
    cases b1
    case' true =>
      have e3 := e2 rfl
      have e4 : ¬ (1 < (l.length : Int)) := by omega
    all_goals
        clear e2
        go_enter Tryd.func12, Tryd.ntmps12
        go_wp2
        go_loop [4, 5] (fun n i => ∃ (k : Nat) (m : Int), k ≤ l.length ∧ i = .int .i64 k ∧ n = .int .i64 m ∧ 0 ≤ m ∧ m + 1 ≤ P.bd k ∧ o = P.rloop m (l.drop k)) (fun _ i => l.length - (intOf i).toNat)
        case atStart => exact ⟨0, 0, by omega, rfl, rfl, by omega, by simp [P.bd], by rw [HO.out, HG.out]; rfl⟩
        case round =>
          obtain ⟨k, m, hk, rfl, rfl, hm0, hm1, hno⟩ := hrel
          have HN := Lib.hid hno
          clear hno
          have hbd := P.bd_le k (by omega)
          have hms := P.bd_step k m hm1
          have HM := Lib.hid hms
          clear hms
          by_cases hlt : k < l.length
          · obtain ⟨x, hx, hb, _⟩ := drop_cons l k hlt
            have hb0 := bt_nonneg l k
            have hb1 := bt_le l k
            have HX := Lib.hid hx
            have HB := Lib.hid hb
            clear hx hb
            by_cases hd : P.dg (bt l k) = true
            · have hd2 := (P.dg_iff _).1 hd
              go_wp2_with (go_at_call 26; refine (Digit_any _ _).mono ?_; rintro e w' ⟨rfl, rfl⟩)
              go_round
              case rel =>
                refine ⟨k + 1, 10 * m + (bt l k - 48), by omega, by go_num, by go_num, by omega, by have := HM.out (bt l k - 48) (by omega); omega, ?_⟩
                rw [HN.out, HX.out, P.rloop_yes HB.out.symm hd]
              case measure => simp [intOf]; omega
            · have hd' : P.dg (bt l k) = false := by simpa using hd
              clear hd
              go_wp2_with (go_at_call 26; refine (Digit_any _ _).mono ?_; rintro e w' ⟨rfl, rfl⟩)
              go_ret2
              exact ⟨optInt_none (by rw [HN.out, HX.out, P.rloop_no HB.out.symm hd']), rfl⟩
          · have HE : Hid (l.drop k = []) := List.drop_eq_nil_of_le (by omega)
            by_cases hb : 2147483647 < m
            · go_wp2
              go_ret2
              exact ⟨optInt_none (by rw [HN.out, HE.out]; simp [P.rloop, hb]), rfl⟩
            · go_wp2
              go_ret2
              exact ⟨optInt_some (by rw [HN.out, HE.out]; simp [P.rloop]; omega), rfl⟩
  refine main _ rfl ?_ _ rfl
  intro h; rw [hc] at h; simp at h; omega

theorem Digits_any (l : List UInt8) (w : World) (hl : l.length ≤ 1000000000) :
    Calls Tryd.prog 11 #[.string ⟨l.toArray⟩] w fun e w' => e = optInt (P.digitsI l) ∧ Below w.heap.size w w' := by
  by_cases h1 : l = [48]
  · subst h1
    go_enter Tryd.func11, Tryd.ntmps11
    go_wp2
    go_ret2
    exact ⟨rfl, Below.refl _ _⟩
  by_cases h0 : l = []
  · subst h0
    go_enter Tryd.func11, Tryd.ntmps11
    go_wp2
    go_ret2
    exact ⟨rfl, Below.refl _ _⟩
  have hpos : 0 < l.length := by cases l; simp at h0; simp
  have hne : l.isEmpty = false := by cases l; simp at h0; simp
  have h48 : (l == [48]) = false := by simpa using h1
  clear h1
  by_cases hz : (bt l 0 == 48) = true
  · have HG : Hid (P.digitsI l = none) := by show P.digitsI l = none; simp [P.digitsI, h48, hz]
    go_enter Tryd.func11, Tryd.ntmps11
    go_wp2
    go_ret2
    exact ⟨optInt_none HG.out, Below.refl _ _⟩
  have hz' : (bt l 0 == 48) = false := by simpa using hz
  clear hz
  have hG : P.digitsI l = P.dloop 0 l := by simp [P.digitsI, h48, hne, hz']
  rw [hG]
  clear hG
  obtain ⟨o, ho⟩ : ∃ o, P.dloop 0 l = o := ⟨_, rfl⟩
  rw [ho]
  have HO := Lib.hid ho
  clear ho
  go_enter Tryd.func11, Tryd.ntmps11
  go_wp2
  go_loopw [4] (fun n wr => ∃ (pos : Nat) (m : Int), pos ≤ l.length ∧ n = .int .i64 m ∧ 0 ≤ m ∧ m ≤ 2147483647 ∧ wr.heap[w.heap.size]? = some (.stringIter ⟨l.toArray⟩ pos) ∧ Below w.heap.size w wr ∧ o = P.dloop m (l.drop pos)) (fun _ wr => l.length - wr.iterPos w.heap.size)
  case atStart =>
    refine ⟨0, 0, by omega, rfl, by omega, by omega, ?_, (Below.refl _ w).alloc (Nat.le_refl _) _, HO.out.symm⟩
    have := World.iter_heap w ⟨l.toArray⟩ 0
    simpa using this
  case round =>
    obtain ⟨pos, m, hk, rfl, hm0, hm1, hit, hbw, hno⟩ := hrel
    have HN := Lib.hid hno
    clear hno
    by_cases hlt : pos < l.length
    · obtain ⟨x, hx, hb, _⟩ := drop_cons l pos hlt
      have HX := Lib.hid hx
      clear hx
      obtain ⟨c, hc⟩ : ∃ c, bt l pos = c := ⟨_, rfl⟩
      have HB : Hid (P.iv x = c) := by rw [← hc, hb]; rfl
      clear hb
      by_cases ha : c < 128
      · have hnx := next_low (P := Tryd.prog) wr w.heap.size l pos hit hlt c hc ha
        clear hc
        have hit2 := Lib.hid (Lib.iterAt_heap wr w.heap.size ⟨l.toArray⟩ pos (pos + 1) hit)
        have hbw2 := Lib.hid (Lib.below_iterAt hbw (k := w.heap.size) (by omega) ⟨l.toArray⟩ (pos + 1))
        by_cases hd : P.dg c = true
        · have hd2 := (P.dg_iff _).1 hd
          by_cases hm : 2147483647 < 10 * m + (c - 48)
          · go_wp2_with (go_at_call 25; refine (digit_any _ _).mono ?_; rintro e w' ⟨rfl, rfl⟩)
            go_ret2
            exact ⟨optInt_none (by rw [HN.out, HX.out, P.dloop_big HB.out hd hm]), hbw2.out⟩
          · go_wp2_with (go_at_call 25; refine (digit_any _ _).mono ?_; rintro e w' ⟨rfl, rfl⟩)
            go_roundw
            case rel => exact ⟨pos + 1, 10 * m + (c - 48), by omega, rfl, by omega, by omega, hit2.out, hbw2.out, by rw [HN.out, HX.out, P.dloop_yes HB.out hd (by omega)]⟩
            case measure => simp only [World.iterPos, hit2.out, hit]; omega
        · have hd' : P.dg c = false := by simpa using hd
          clear hd
          go_wp2_with (go_at_call 25; refine (digit_any _ _).mono ?_; rintro e w' ⟨rfl, rfl⟩)
          go_ret2
          exact ⟨optInt_none (by rw [HN.out, HX.out, P.dloop_no HB.out hd']), hbw2.out⟩
      · obtain ⟨r, d, hr, hr2, hd, hnx⟩ := next_high (P := Tryd.prog) wr w.heap.size l pos hit hlt (by omega)
        clear hc
        have hbw2 := Lib.hid (Lib.below_iterAt hbw (k := w.heap.size) (by omega) ⟨l.toArray⟩ (pos + d))
        have h2 := P.dg_high r (by omega)
        go_wp2_with (go_at_call 25; refine (digit_any _ _).mono ?_; rintro e w' ⟨rfl, rfl⟩)
        go_ret2
        exact ⟨optInt_none (by rw [HN.out, HX.out, P.dloop_no HB.out (P.dg_high c (by omega))]), hbw2.out⟩
    · have hnx := next_end (P := Tryd.prog) wr w.heap.size l pos hit hlt
      have HE : Hid (l.drop pos = []) := List.drop_eq_nil_of_le (by omega)
      go_wp2
      go_ret2
      exact ⟨optInt_some (by rw [HN.out, HE.out]; rfl), hbw⟩

/-! ### Plain -/
theorem Plain_ref (l : List UInt8) (w : World) (hl : l.length ≤ 1000000000) :
    Calls Tryd.prog 16 #[.string ⟨l.toArray⟩] w fun e w' => e = .returned (.bool (P.plainB l)) ∧ w = w' := by
  go_enter Tryd.func16, Tryd.ntmps16
  go_wp2
  go_loop [3] (fun i => ∃ k : Nat, k ≤ l.length ∧ i = .int .i64 k ∧ (l.drop k).all (fun x => P.pl (P.iv x)) = l.all (fun x => P.pl (P.iv x))) (fun i => l.length - (intOf i).toNat)
  case atStart => exact ⟨0, Nat.zero_le _, rfl, by simp⟩
  case round =>
    obtain ⟨k, hk, rfl, hno⟩ := hrel
    have HN := Lib.hid hno
    clear hno
    by_cases hlt : k < l.length
    · obtain ⟨x, hx, hb, _⟩ := drop_cons l k hlt
      have HX := Lib.hid hx
      have HB : Hid (P.iv x = bt l k) := hb.symm
      clear hx hb
      by_cases h1 : P.pl (bt l k) = true
      · have HP := Lib.hid h1
        clear h1
        go_wp2_with (first | (go_at_call 28; refine (Word_any _ _).mono ?_; rintro e w' ⟨rfl, rfl⟩) | (go_at_call 30; refine (Has_any _ _ _ (by simp)).mono ?_; rintro e w' ⟨rfl, rfl⟩))
        all_goals first
          | (go_round
             case rel => exact ⟨k + 1, by omega, by go_num, by rw [← HN.out, HX.out, List.all_cons, HB.out, HP.out, Bool.true_and]⟩
             case measure => simp [intOf]; omega)
          | (exfalso; have := HP.out; go_light; simp_all [P.pl, P.pun]; done)
      · have HP := Lib.hid (show P.pl (bt l k) = false by simpa using h1)
        clear h1
        go_wp2_with (first | (go_at_call 28; refine (Word_any _ _).mono ?_; rintro e w' ⟨rfl, rfl⟩) | (go_at_call 30; refine (Has_any _ _ _ (by simp)).mono ?_; rintro e w' ⟨rfl, rfl⟩))
        all_goals first
          | (go_ret; exact ⟨ret_bool (by unfold P.plainB; rw [← HN.out, HX.out, List.all_cons, HB.out, HP.out]; rfl), rfl⟩)
          | (exfalso; have := HP.out; go_light; simp_all [P.pl, P.pun]; done)
    · go_wp2
      go_ret
      exact ⟨ret_bool (by unfold P.plainB; rw [← HN.out, List.drop_eq_nil_of_le (by omega)]; cases l <;> simp), rfl⟩

theorem Plain_any (l : List UInt8) (w : World) (hl : l.length ≤ 1000000000) :
    Calls Tryd.prog 15 #[.string ⟨l.toArray⟩] w fun e w' => e = .returned (.bool (P.plainB l)) ∧ Below w.heap.size w w' := by
  go_enter Tryd.func15, Tryd.ntmps15
  go_wp2
  go_loopw [] (fun wr => ∃ pos : Nat, pos ≤ l.length ∧ wr.heap[w.heap.size]? = some (.stringIter ⟨l.toArray⟩ pos) ∧ Below w.heap.size w wr ∧ (l.drop pos).all (fun x => P.pl (P.iv x)) = l.all (fun x => P.pl (P.iv x))) (fun wr => l.length - wr.iterPos w.heap.size)
  case atStart =>
    refine ⟨0, by omega, ?_, (Below.refl _ w).alloc (Nat.le_refl _) _, rfl⟩
    have := World.iter_heap w ⟨l.toArray⟩ 0
    simpa using this
  case round =>
    obtain ⟨pos, hk, hit, hbw, hno⟩ := hrel
    have HN := Lib.hid hno
    clear hno
    by_cases hlt : pos < l.length
    · obtain ⟨x, hx, hb, _⟩ := drop_cons l pos hlt
      have HX := Lib.hid hx
      clear hx
      obtain ⟨c, hc⟩ : ∃ c, bt l pos = c := ⟨_, rfl⟩
      have HB : Hid (P.iv x = c) := by rw [← hc, hb]; rfl
      have hc0 : 0 ≤ c := by rw [← hc]; exact bt_nonneg _ _
      clear hb
      have HI := Lib.hid (P.plI_eq c hc0)
      by_cases ha : c < 128
      · have hnx := next_low (P := Tryd.prog) wr w.heap.size l pos hit hlt c hc ha
        clear hc
        have hit2 := Lib.hid (Lib.iterAt_heap wr w.heap.size ⟨l.toArray⟩ pos (pos + 1) hit)
        have hbw2 := Lib.hid (Lib.below_iterAt hbw (k := w.heap.size) (by omega) ⟨l.toArray⟩ (pos + 1))
        by_cases h1 : P.pl c = true
        · have HP := Lib.hid h1
          clear h1
          go_wp2_with (first | (go_at_call 27; refine (letter_any _ _).mono ?_; rintro e w' ⟨rfl, rfl⟩) | (go_at_call 25; refine (digit_any _ _).mono ?_; rintro e w' ⟨rfl, rfl⟩) | (go_at_call 29; refine (Tryd.strings_ContainsRune_ascii _ _ _ hc0 ha).mono ?_; rintro e w' ⟨rfl, rfl⟩))
          all_goals first
            | (go_roundw
               case rel => exact ⟨pos + 1, by omega, hit2.out, hbw2.out, by rw [← HN.out, HX.out, List.all_cons, HB.out, HP.out, Bool.true_and]⟩
               case measure => simp only [World.iterPos, hit2.out, hit]; omega)
            | (exfalso; have := HP.out; rw [← HI.out] at this; go_light; simp_all [P.plI]; done)
            | (exfalso; have := HP.out; rw [← HI.out] at this; go_light; simp_all [P.plI]; omega)
        · have HP := Lib.hid (show P.pl c = false by simpa using h1)
          clear h1
          go_wp2_with (first | (go_at_call 27; refine (letter_any _ _).mono ?_; rintro e w' ⟨rfl, rfl⟩) | (go_at_call 25; refine (digit_any _ _).mono ?_; rintro e w' ⟨rfl, rfl⟩) | (go_at_call 29; refine (Tryd.strings_ContainsRune_ascii _ _ _ hc0 ha).mono ?_; rintro e w' ⟨rfl, rfl⟩))
          all_goals first
            | (go_ret; exact ⟨ret_bool (by unfold P.plainB; rw [← HN.out, HX.out, List.all_cons, HB.out, HP.out]; rfl), hbw2.out⟩)
            | (exfalso; have := HP.out; rw [← HI.out] at this; go_light; simp_all [P.plI]; done)
            | (exfalso; have := HP.out; rw [← HI.out] at this; go_light; simp_all [P.plI]; omega)
      · obtain ⟨r, d, hr, hr2, hd, hnx⟩ := next_high (P := Tryd.prog) wr w.heap.size l pos hit hlt (by omega)
        clear hc
        have hbw2 := Lib.hid (Lib.below_iterAt hbw (k := w.heap.size) (by omega) ⟨l.toArray⟩ (pos + d))
        have h1 := P.lt_high r (by omega)
        have h2 := P.dg_high r (by omega)
        go_wp2_with (first | (go_at_call 27; refine (letter_any _ _).mono ?_; rintro e w' ⟨rfl, rfl⟩) | (go_at_call 25; refine (digit_any _ _).mono ?_; rintro e w' ⟨rfl, rfl⟩))
        go_ret
        exact ⟨ret_bool (by unfold P.plainB; rw [← HN.out, HX.out, List.all_cons, HB.out, P.pl_high c (by omega)]; rfl), hbw2.out⟩
    · have hnx := next_end (P := Tryd.prog) wr w.heap.size l pos hit hlt
      go_wp2
      go_ret
      exact ⟨ret_bool (by unfold P.plainB; rw [← HN.out, List.drop_eq_nil_of_le (by omega)]; cases l <;> simp), hbw⟩
end W
end Go.Proofs.YtabhfodjfikdaaaDoor
