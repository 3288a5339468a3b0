/- Chapter 12: several texts in one: Q12 W12a W12b W12c W12d W12r. -/
import Derived.Test.YtlhijlmbfjlglaaYA
import Derived.Test.YtlhijlmbfjlglaaYB
import Derived.Lib.ReplaceLaws
import Derived.Lib.CountLaws
import Derived.Test.YtlhijlmbfjlglaaShelfC
import Derived.BigQuiet
namespace Go.Proofs.Ytlhijlmbfjlglaa
open Go.RowKit K
namespace W

theorem letter_any (c : Int) (w : World) :
    Calls Try.prog 33 #[.int .i32 c] w fun e w' => e = .returned (.bool (P.lt c)) ∧ w = w' := by
  go_enter Try.func33, Try.ntmps33
  go_wp2
  all_goals go_ret
  all_goals exact ⟨ret_bool (by rw [Bool.eq_iff_iff]; simp [P.lt]; omega), rfl⟩
theorem digit_any (c : Int) (w : World) :
    Calls Try.prog 34 #[.int .i32 c] w fun e w' => e = .returned (.bool (P.dg c)) ∧ w = w' := by
  go_enter Try.func34, Try.ntmps34
  go_wp2
  all_goals go_ret
  all_goals exact ⟨ret_bool (by rw [Bool.eq_iff_iff]; simp [P.dg]; try omega), rfl⟩
theorem Letter_any (c : Int) (w : World) :
    Calls Try.prog 52 #[.int .u8 c] w fun e w' => e = .returned (.bool (P.lt c)) ∧ w = w' := by
  go_enter Try.func52, Try.ntmps52
  go_wp2
  all_goals go_ret
  all_goals exact ⟨ret_bool (by rw [Bool.eq_iff_iff]; simp [P.lt]; omega), rfl⟩
theorem Digit_any (c : Int) (w : World) :
    Calls Try.prog 36 #[.int .u8 c] w fun e w' => e = .returned (.bool (P.dg c)) ∧ w = w' := by
  go_enter Try.func36, Try.ntmps36
  go_wp2
  all_goals go_ret
  all_goals exact ⟨ret_bool (by rw [Bool.eq_iff_iff]; simp [P.dg]; try omega), rfl⟩
theorem Word_any (c : Int) (w : World) :
    Calls Try.prog 35 #[.int .u8 c] w fun e w' => e = .returned (.bool (P.wd c)) ∧ w = w' := by
  go_enter Try.func35, Try.ntmps35
  go_wp2_with (first | (go_at_call 52; refine (Letter_any _ _).mono ?_; rintro e w' ⟨rfl, rfl⟩) | (go_at_call 36; refine (Digit_any _ _).mono ?_; rintro e w' ⟨rfl, rfl⟩))
  all_goals go_ret
  all_goals exact ⟨ret_bool (by simp [P.wd, *]), rfl⟩
theorem Has_any (l : List UInt8) (c : Int) (w : World) (hl : l.length ≤ 1000000000) :
    Calls Try.prog 48 #[.string ⟨l.toArray⟩, .int .u8 c] w fun e w' => e = .returned (.bool (P.has l c)) ∧ w = w' := by
  go_enter Try.func48, Try.ntmps48
  go_wp2
  go_loop [5] (fun i => ∃ k : Nat, k ≤ l.length ∧ i = .int .i64 k ∧ P.has (l.drop k) c = P.has l c) (fun i => l.length - (intOf i).toNat)
  case atStart => exact ⟨0, Nat.zero_le _, rfl, by simp⟩
  case round =>
    obtain ⟨k, hk, rfl, hno⟩ := hrel
    have HN := Lib.hid hno
    clear hno
    by_cases hlt : k < l.length
    · obtain ⟨x, hx, hb, _⟩ := drop_cons l k hlt
      have HX := Lib.hid hx
      have HB := Lib.hid hb
      clear hx hb
      go_wp2
      · rename_i h _
        go_ret
        exact ⟨ret_bool (by rw [← HN.out, HX.out]; rw [HB.out] at h; simp [P.has, P.iv, h]), rfl⟩
      · rename_i h
        go_round
        case rel => exact ⟨k + 1, by omega, by go_num, by rw [← HN.out, HX.out]; rw [HB.out] at h; simp [P.has, P.iv, h]⟩
        case measure => simp [intOf]; omega
    · go_wp2
      go_ret
      exact ⟨ret_bool (by rw [← HN.out, List.drop_eq_nil_of_le (by omega)]; rfl), rfl⟩

theorem Name_ref (l : List UInt8) (w : World) (hl : l.length ≤ 1000000000) :
    Calls Try.prog 20 #[.string ⟨l.toArray⟩] w fun e w' => e = .returned (.bool (P.nameB l)) ∧ w = w' := by
  go_enter Try.func20, Try.ntmps20
  by_cases h0 : l = []
  · subst h0
    go_wp2
    go_ret
    exact ⟨rfl, rfl⟩
  have hpos : 0 < l.length := by cases l; simp at h0; simp
  have hne : l.isEmpty = false := by cases l; simp at h0; simp
  rcases Nat.lt_or_ge 32 l.length with h32 | h32
  · go_wp2
    go_ret
    exact ⟨ret_bool (by simp [P.nameB]; omega), rfl⟩
  by_cases hd : P.dg (bt l 0) = true
  · go_wp2_with (go_at_call 36; refine (Digit_any _ _).mono ?_; rintro e w' ⟨rfl, rfl⟩)
    go_ret
    exact ⟨ret_bool (by simp [P.nameB, hd]), rfl⟩
  have hd' : P.dg (bt l 0) = false := by simpa using hd
  clear hd
  have HG : Hid (P.nameB l = l.all (fun x => P.wd (P.iv x))) := by show P.nameB l = _; simp [P.nameB, hne, h32, hd']
  go_wp2_with (go_at_call 36; refine (Digit_any _ _).mono ?_; rintro e w' ⟨rfl, rfl⟩)
  go_loop [3] (fun i => ∃ k : Nat, k ≤ l.length ∧ i = .int .i64 k ∧ (l.drop k).all (fun x => P.wd (P.iv x)) = l.all (fun x => P.wd (P.iv x))) (fun i => l.length - (intOf i).toNat)
  case atStart => exact ⟨0, Nat.zero_le _, rfl, by simp⟩
  case round =>
    obtain ⟨k, hk, rfl, hno⟩ := hrel
    have HN := Lib.hid hno
    clear hno
    by_cases hlt : k < l.length
    · obtain ⟨x, hx, hb, _⟩ := drop_cons l k hlt
      have HX := Lib.hid hx
      have HB := Lib.hid hb
      clear hx hb
      go_wp2_with (go_at_call 35; refine (Word_any _ _).mono ?_; rintro e w' ⟨rfl, rfl⟩)
      · rename_i h
        go_ret
        exact ⟨ret_bool (by rw [HG.out, ← HN.out, HX.out]; rw [HB.out] at h; simp at h; simp [P.iv, h]), rfl⟩
      · rename_i h
        go_round
        case rel => exact ⟨k + 1, by omega, by go_num, by rw [← HN.out, HX.out]; rw [HB.out] at h; simp at h; simp [P.iv, h]⟩
        case measure => simp [intOf]; omega
    · go_wp2
      go_ret
      exact ⟨ret_bool (by rw [HG.out, ← HN.out, List.drop_eq_nil_of_le (by omega)]; rfl), rfl⟩

theorem Name_any (l : List UInt8) (w : World) (hl : l.length ≤ 1000000000) :
    Calls Try.prog 18 #[.string ⟨l.toArray⟩] w fun e w' => e = .returned (.bool (P.nameB l)) ∧ Below w.heap.size w w' := by
  go_enter Try.func18, Try.ntmps18
  by_cases h0 : l.length < 1
  · go_wp2
    go_ret
    exact ⟨ret_bool (by have : l = [] := List.eq_nil_of_length_eq_zero (by omega)
                        subst this; rfl), Below.refl _ _⟩
  rcases Nat.lt_or_ge 32 l.length with h32 | h32
  · go_wp2
    go_ret
    exact ⟨ret_bool (by simp [P.nameB]; omega), Below.refl _ _⟩
  have hpos : 0 < l.length := by omega
  rw [P.nameFrom_zero l hpos h32]
  go_wp2
  go_loopw [] (fun wr => ∃ pos : Nat, pos ≤ l.length ∧ wr.heap[w.heap.size]? = some (.stringIter ⟨l.toArray⟩ pos) ∧ Below w.heap.size w wr ∧ P.nameFrom l 0 = P.nameFrom l pos) (fun wr => l.length - wr.iterPos w.heap.size)
  case atStart =>
    refine ⟨0, by omega, ?_, (Below.refl _ w).alloc (Nat.le_refl _) _, rfl⟩
    have := World.iter_heap w ⟨l.toArray⟩ 0
    simpa using this
  case round =>
    obtain ⟨pos, hk, hit, hbw, hno⟩ := hrel
    have HN := Lib.hid hno
    clear hno
    by_cases hlt : pos < l.length
    · obtain ⟨c, hc⟩ : ∃ c, bt l pos = c := ⟨_, rfl⟩
      have HC := Lib.hid hc
      by_cases ha : c < 128
      · have hnx := next_low (P := Try.prog) wr w.heap.size l pos hit hlt c hc ha
        clear hc
        have hit2 := Lib.hid (Lib.iterAt_heap wr w.heap.size ⟨l.toArray⟩ pos (pos + 1) hit)
        have hbw2 := Lib.hid (Lib.below_iterAt hbw (k := w.heap.size) (by omega) ⟨l.toArray⟩ (pos + 1))
        go_wp2_with (first | (go_at_call 33; refine (letter_any _ _).mono ?_; rintro e w' ⟨rfl, rfl⟩) | (go_at_call 34; refine (digit_any _ _).mono ?_; rintro e w' ⟨rfl, rfl⟩))
        all_goals first
          | (go_ret
             exact ⟨ret_bool (by go_light; rw [HN.out, P.nameFrom_stop hlt HC.out (by simp_all)]), hbw2.out⟩)
          | (go_roundw
             case rel => exact ⟨pos + 1, by omega, hit2.out, hbw2.out, by go_light; rw [HN.out, P.nameFrom_step hlt HC.out (by simp_all)]⟩
             case measure => simp only [World.iterPos, hit2.out, hit]; omega)
      · obtain ⟨r, d, hr, hr2, hd, hnx⟩ := next_high (P := Try.prog) wr w.heap.size l pos hit hlt (by omega)
        clear hc
        have hbw2 := Lib.hid (Lib.below_iterAt hbw (k := w.heap.size) (by omega) ⟨l.toArray⟩ (pos + d))
        have h1 := P.lt_high r (by omega)
        have h2 := P.dg_high r (by omega)
        have h3 : ((r : Int) == 95) = false := by simp; omega
        go_wp2_with (first | (go_at_call 33; refine (letter_any _ _).mono ?_; rintro e w' ⟨rfl, rfl⟩) | (go_at_call 34; refine (digit_any _ _).mono ?_; rintro e w' ⟨rfl, rfl⟩))
        go_ret
        exact ⟨ret_bool (by go_light; rw [HN.out, P.nameFrom_stop hlt HC.out (by rw [P.lt_high c (by omega), P.dg_high c (by omega)]; simp; omega)]), hbw2.out⟩
    · have hnx := next_end (P := Try.prog) wr w.heap.size l pos hit hlt
      go_wp2
      go_ret
      exact ⟨ret_bool (by rw [HN.out, P.nameFrom_end hpos hlt]), hbw⟩
/-- A number or nothing, as Go returns it. -/
def optInt (o : Option Int) : Ending := .returned (.tuple #[.int .i64 (o.getD 0), .bool o.isSome])
theorem optInt_none {o : Option Int} (h : o = none) : Ending.returned (.tuple #[.int .i64 0, .bool false]) = optInt o := by rw [h]; rfl
theorem optInt_some {o : Option Int} {n : Int} (h : o = some n) : Ending.returned (.tuple #[.int .i64 n, .bool true]) = optInt o := by rw [h]; rfl

theorem Digits_any (l : List UInt8) (w : World) (hl : l.length ≤ 1000000000) :
    Calls Try.prog 25 #[.string ⟨l.toArray⟩] w fun e w' => e = optInt (P.digitsI l) ∧ Below w.heap.size w w' := by
  by_cases h1 : l = [48]
  · subst h1
    go_enter Try.func25, Try.ntmps25
    go_wp2
    go_ret2
    exact ⟨rfl, Below.refl _ _⟩
  by_cases h0 : l = []
  · subst h0
    go_enter Try.func25, Try.ntmps25
    go_wp2
    go_ret2
    exact ⟨rfl, Below.refl _ _⟩
  have hpos : 0 < l.length := by cases l; simp at h0; simp
  have hne : l.isEmpty = false := by cases l; simp at h0; simp
  have h48 : (l == [48]) = false := by simpa using h1
  clear h1
  by_cases hz : (bt l 0 == 48) = true
  · have HG : Hid (P.digitsI l = none) := by show P.digitsI l = none; simp [P.digitsI, h48, hz]
    go_enter Try.func25, Try.ntmps25
    go_wp2
    go_ret2
    exact ⟨optInt_none HG.out, Below.refl _ _⟩
  have hz' : (bt l 0 == 48) = false := by simpa using hz
  clear hz
  have hG : P.digitsI l = P.dloop 0 l := by simp [P.digitsI, h48, hne, hz']
  rw [hG]
  clear hG
  obtain ⟨o, ho⟩ : ∃ o, P.dloop 0 l = o := ⟨_, rfl⟩
  rw [ho]
  have HO := Lib.hid ho
  clear ho
  go_enter Try.func25, Try.ntmps25
  go_wp2
  go_loopw [4] (fun n wr => ∃ (pos : Nat) (m : Int), pos ≤ l.length ∧ n = .int .i64 m ∧ 0 ≤ m ∧ m ≤ 2147483647 ∧ wr.heap[w.heap.size]? = some (.stringIter ⟨l.toArray⟩ pos) ∧ Below w.heap.size w wr ∧ o = P.dloop m (l.drop pos)) (fun _ wr => l.length - wr.iterPos w.heap.size)
  case atStart =>
    refine ⟨0, 0, by omega, rfl, by omega, by omega, ?_, (Below.refl _ w).alloc (Nat.le_refl _) _, HO.out.symm⟩
    have := World.iter_heap w ⟨l.toArray⟩ 0
    simpa using this
  case round =>
    obtain ⟨pos, m, hk, rfl, hm0, hm1, hit, hbw, hno⟩ := hrel
    have HN := Lib.hid hno
    clear hno
    by_cases hlt : pos < l.length
    · obtain ⟨x, hx, hb, _⟩ := drop_cons l pos hlt
      have HX := Lib.hid hx
      clear hx
      obtain ⟨c, hc⟩ : ∃ c, bt l pos = c := ⟨_, rfl⟩
      have HB : Hid (P.iv x = c) := by rw [← hc, hb]; rfl
      clear hb
      by_cases ha : c < 128
      · have hnx := next_low (P := Try.prog) wr w.heap.size l pos hit hlt c hc ha
        clear hc
        have hit2 := Lib.hid (Lib.iterAt_heap wr w.heap.size ⟨l.toArray⟩ pos (pos + 1) hit)
        have hbw2 := Lib.hid (Lib.below_iterAt hbw (k := w.heap.size) (by omega) ⟨l.toArray⟩ (pos + 1))
        by_cases hd : P.dg c = true
        · have hd2 := (P.dg_iff _).1 hd
          by_cases hm : 2147483647 < 10 * m + (c - 48)
          · go_wp2_with (go_at_call 34; refine (digit_any _ _).mono ?_; rintro e w' ⟨rfl, rfl⟩)
            go_ret2
            exact ⟨optInt_none (by rw [HN.out, HX.out, P.dloop_big HB.out hd hm]), hbw2.out⟩
          · go_wp2_with (go_at_call 34; refine (digit_any _ _).mono ?_; rintro e w' ⟨rfl, rfl⟩)
            go_roundw
            case rel => exact ⟨pos + 1, 10 * m + (c - 48), by omega, rfl, by omega, by omega, hit2.out, hbw2.out, by rw [HN.out, HX.out, P.dloop_yes HB.out hd (by omega)]⟩
            case measure => simp only [World.iterPos, hit2.out, hit]; omega
        · have hd' : P.dg c = false := by simpa using hd
          clear hd
          go_wp2_with (go_at_call 34; refine (digit_any _ _).mono ?_; rintro e w' ⟨rfl, rfl⟩)
          go_ret2
          exact ⟨optInt_none (by rw [HN.out, HX.out, P.dloop_no HB.out hd']), hbw2.out⟩
      · obtain ⟨r, d, hr, hr2, hd, hnx⟩ := next_high (P := Try.prog) wr w.heap.size l pos hit hlt (by omega)
        clear hc
        have hbw2 := Lib.hid (Lib.below_iterAt hbw (k := w.heap.size) (by omega) ⟨l.toArray⟩ (pos + d))
        have h2 := P.dg_high r (by omega)
        go_wp2_with (go_at_call 34; refine (digit_any _ _).mono ?_; rintro e w' ⟨rfl, rfl⟩)
        go_ret2
        exact ⟨optInt_none (by rw [HN.out, HX.out, P.dloop_no HB.out (P.dg_high c (by omega))]), hbw2.out⟩
    · have hnx := next_end (P := Try.prog) wr w.heap.size l pos hit hlt
      have HE : Hid (l.drop pos = []) := List.drop_eq_nil_of_le (by omega)
      go_wp2
      go_ret2
      exact ⟨optInt_some (by rw [HN.out, HE.out]; rfl), hbw⟩

theorem Plain_ref (l : List UInt8) (w : World) (hl : l.length ≤ 1000000000) :
    Calls Try.prog 30 #[.string ⟨l.toArray⟩] w fun e w' => e = .returned (.bool (P.plainB l)) ∧ w = w' := by
  go_enter Try.func30, Try.ntmps30
  go_wp2
  go_loop [3] (fun i => ∃ k : Nat, k ≤ l.length ∧ i = .int .i64 k ∧ (l.drop k).all (fun x => P.pl (P.iv x)) = l.all (fun x => P.pl (P.iv x))) (fun i => l.length - (intOf i).toNat)
  case atStart => exact ⟨0, Nat.zero_le _, rfl, by simp⟩
  case round =>
    obtain ⟨k, hk, rfl, hno⟩ := hrel
    have HN := Lib.hid hno
    clear hno
    by_cases hlt : k < l.length
    · obtain ⟨x, hx, hb, _⟩ := drop_cons l k hlt
      have HX := Lib.hid hx
      have HB : Hid (P.iv x = bt l k) := hb.symm
      clear hx hb
      by_cases h1 : P.pl (bt l k) = true
      · have HP := Lib.hid h1
        clear h1
        go_wp2_with (first | (go_at_call 35; refine (Word_any _ _).mono ?_; rintro e w' ⟨rfl, rfl⟩) | (go_at_call 48; refine (Has_any _ _ _ (by simp)).mono ?_; rintro e w' ⟨rfl, rfl⟩))
        all_goals first
          | (go_round
             case rel => exact ⟨k + 1, by omega, by go_num, by rw [← HN.out, HX.out, List.all_cons, HB.out, HP.out, Bool.true_and]⟩
             case measure => simp [intOf]; omega)
          | (exfalso; have := HP.out; go_light; simp_all [P.pl, P.pun]; done)
      · have HP := Lib.hid (show P.pl (bt l k) = false by simpa using h1)
        clear h1
        go_wp2_with (first | (go_at_call 35; refine (Word_any _ _).mono ?_; rintro e w' ⟨rfl, rfl⟩) | (go_at_call 48; refine (Has_any _ _ _ (by simp)).mono ?_; rintro e w' ⟨rfl, rfl⟩))
        all_goals first
          | (go_ret; exact ⟨ret_bool (by unfold P.plainB; rw [← HN.out, HX.out, List.all_cons, HB.out, HP.out]; rfl), rfl⟩)
          | (exfalso; have := HP.out; go_light; simp_all [P.pl, P.pun]; done)
    · go_wp2
      go_ret
      exact ⟨ret_bool (by unfold P.plainB; rw [← HN.out, List.drop_eq_nil_of_le (by omega)]; cases l <;> simp), rfl⟩

theorem Quote_ref (l : List UInt8) (w : World) (hl : l.length ≤ 100000000) :
    Calls Try.prog 14 #[.string ⟨l.toArray⟩] w fun e w' => e = .returned (.string ⟨(P.quote l).toArray⟩) ∧ w = w' := by
  by_cases hp : P.plainB l = true
  · have HG := Lib.hid (show P.quote l = l by simp [P.quote, hp])
    go_enter Try.func14, Try.ntmps14
    go_wp2_with (go_at_call 30; refine (Plain_ref _ _ (by omega)).mono ?_; rintro e w' ⟨rfl, rfl⟩)
    go_ret
    exact ⟨ret_str HG.out.symm, rfl⟩
  · have hp' : P.plainB l = false := by simpa using hp
    clear hp
    have HG := Lib.hid (show P.quote l = 39 :: (P.quoteBody l ++ [39]) by simp [P.quote, hp'])
    go_enter Try.func14, Try.ntmps14
    go_wp2_with (go_at_call 30; refine (Plain_ref _ _ (by omega)).mono ?_; rintro e w' ⟨rfl, rfl⟩)
    go_loop [3, 4] (fun o i => ∃ (k : Nat) (q : List UInt8), k ≤ l.length ∧ i = .int .i64 k ∧ o = .string ⟨q.toArray⟩ ∧ q.length ≤ 4 * k + 1 ∧ q ++ P.quoteBody (l.drop k) = 39 :: P.quoteBody l) (fun _ i => l.length - (intOf i).toNat)
    case atStart => exact ⟨0, [39], by omega, rfl, rfl, by simp, by simp⟩
    case round =>
      obtain ⟨k, q, hk, rfl, rfl, hq, hno⟩ := hrel
      have HN := Lib.hid hno
      clear hno
      by_cases hlt : k < l.length
      · obtain ⟨x, hx, hb, _⟩ := drop_cons l k hlt
        have HX := Lib.hid hx
        have HB := Lib.hid hb
        clear hx hb
        have HC := Lib.hid (cut_one l k hlt)
        go_wp2
        · rename_i h
          go_round
          case rel =>
            refine ⟨k + 1, q ++ [39, 92, 39, 39], by omega, by go_num, rfl, by simp; omega, ?_⟩
            rw [← HN.out, HX.out, P.quoteBody, show P.iv x = bt l k from HB.out.symm, h]; simp
          case measure => simp [intOf]; omega
        · rename_i h
          go_round
          case rel =>
            refine ⟨k + 1, q ++ cut l k (k + 1), by omega, by go_num, rfl, by simp; omega, ?_⟩
            rw [← HN.out, HX.out, P.quoteBody, show P.iv x = bt l k from HB.out.symm, h, HC.out, by8_bt HB.out]; simp
          case measure => simp [intOf]; omega
      · have HE := Lib.hid (drop_end l k hlt)
        go_wp2
        go_ret
        exact ⟨ret_str (by rw [HG.out, ← List.cons_append, ← HN.out, HE.out]; simp [P.quoteBody]), rfl⟩

/-- The library's variable MaxLen holds some integer. -/
def Env (w : World) : Prop := ∃ m, w.cell? ⟨0, 0, none⟩ = some (.int .i64 m)
end W
end Go.Proofs.Ytlhijlmbfjlglaa
namespace Go.Proofs.Ytlhijlmbfjlglaa
open Go.RowKit K
/-- Chapter 12 in plain Lean. -/
def SC.asg (s : List UInt8) : List UInt8 × List UInt8 × Bool :=
  if (Lib.cut s [61]).2.2 = true ∧ P.nameB (Lib.cut s [61]).1 = true then ((Lib.cut s [61]).1, (Lib.cut s [61]).2.1, true) else ([], [], false)
namespace W
theorem Env.below {w w' : World} (h : Env w) (hb : Below w.heap.size w w') : Env w' := by
  obtain ⟨m, hm⟩ := h
  refine ⟨m, (hb.cell ?_).trans hm⟩
  rcases Nat.lt_or_ge 0 w.heap.size with h | h
  · exact h
  · rw [World.cell?, show w.heap[0]? = none from Array.getElem?_eq_none h] at hm
    cases hm
theorem cut_len1 (s : List UInt8) : (Lib.cut s [61]).1.length ≤ s.length ∧ (Lib.cut s [61]).2.1.length ≤ s.length := by
  unfold Lib.cut
  split
  · exact ⟨by simp; omega, by simp⟩
  · exact ⟨Nat.le_refl _, Nat.zero_le _⟩
set_option maxRecDepth 100000 in
set_option maxHeartbeats 2000000 in
theorem Assignment_any (s : List UInt8) (w : World) (hw : Env w) (hl : s.length ≤ 100000) (a b : List UInt8) (ok : Bool) (hA : SC.asg s = (a, b, ok)) : Calls Try.prog 7 #[.string ⟨s.toArray⟩] w fun e w' => e = .returned (.tuple #[.string ⟨a.toArray⟩, .string ⟨b.toArray⟩, .bool ok]) ∧ Below w.heap.size w w' := by
  obtain ⟨m, hm⟩ := hw
  have HC := Lib.hid (Try.strings_Cut ⟨s.toArray⟩ ⟨#[61]⟩ m w (by show s.length < _; omega) hm)
  have hcl := cut_len1 s
  unfold SC.asg at hA
  obtain ⟨⟨n, v, f⟩, hc⟩ : ∃ c, Lib.cut s [61] = c := ⟨_, rfl⟩
  have hc' : Lib.cut s.toArray.toList [61] = (n, v, f) := hc
  rw [hc] at hcl hA
  dsimp only at hcl hA
  have HN := Lib.hid (fun V => Name_any n V (by omega))
  have HCC := Lib.hid hc'
  have HA := Lib.hid hA
  clear hm hc hc' hcl hA
  go_enter Try.func7, Try.ntmps7
  go_wp2_with fail
  refine HC.out.mono ?_
  rintro e w1 ⟨rfl, k, rfl⟩
  have hce : Lib.cut (⟨s.toArray⟩ : ByteArray).data.toList (⟨#[61]⟩ : ByteArray).data.toList = (n, v, f) := HCC.out
  rw [hce]
  dsimp only
  clear hce HC
  rcases f with _ | _
  · have hA := HA.out
    rw [if_neg (by rintro ⟨h, -⟩; cases h)] at hA
    injection hA with h1 h2
    injection h2 with h2 h3
    subst h1 h2 h3
    go_wp2
    go_ret3
    exact ⟨rfl, bdN (Below.refl _ _) k⟩
  · by_cases hn : P.nameB n = true
    · have hA := HA.out
      rw [if_pos ⟨rfl, hn⟩] at hA
      injection hA with h1 h2
      injection h2 with h2 h3
      subst h1 h2 h3
      go_wp2_with fail
      refine (HN.out _).mono ?_
      rintro e w2 ⟨rfl, hb⟩
      have HB := Lib.hid (btr (bdN (Below.refl w.heap.size w) k) hb)
      clear hb
      rw [hn]
      go_wp2
      go_ret3
      exact ⟨rfl, HB.out⟩
    · have hn' : P.nameB n = false := by simpa using hn
      have hA := HA.out
      rw [if_neg (fun h => hn h.2)] at hA
      injection hA with h1 h2
      injection h2 with h2 h3
      subst h1 h2 h3
      go_wp2_with fail
      refine (HN.out _).mono ?_
      rintro e w2 ⟨rfl, hb⟩
      have HB := Lib.hid (btr (bdN (Below.refl w.heap.size w) k) hb)
      clear hb
      rw [hn']
      go_wp2
      go_ret3
      exact ⟨rfl, HB.out⟩
end W
end Go.Proofs.Ytlhijlmbfjlglaa
namespace Go.Proofs.Ytlhijlmbfjlglaa
open Go.RowKit K
def SC.res : List (List UInt8) := [[33], [123], [125], [99, 97, 115, 101], [100, 111], [100, 111, 110, 101], [101, 108, 105, 102], [101, 108, 115, 101], [101, 115, 97, 99], [102, 105], [102, 111, 114], [105, 102], [105, 110], [116, 104, 101, 110], [117, 110, 116, 105, 108], [119, 104, 105, 108, 101]]
def SC.resB (t : List UInt8) : Bool := decide (t ∈ SC.res)
/-- What an operator makes of a redirection: its operation, its descriptor, whether tabs go. -/
def SC.tab : List (List UInt8 × Int × Int × Bool) := [([60], 1, 0, false), ([62], 2, 1, false), ([62, 62], 3, 1, false), ([60, 38], 4, 0, false), ([62, 38], 5, 1, false), ([60, 62], 6, 0, false), ([62, 124], 7, 1, false), ([60, 60], 8, 0, false), ([60, 60, 45], 8, 0, true)]
def SC.look (t : List UInt8) : List (List UInt8 × Int × Int × Bool) → Int × Int × Bool
  | [] => (0, 0, false)
  | x :: r => if t = x.1 then x.2 else SC.look t r
def SC.desc (t : LX.Tok) : Int × Int × Bool := if t.kind = 2 then SC.look t.text SC.tab else (0, 0, false)
theorem SC.look_none {t : List UInt8} : ∀ l : List (List UInt8 × Int × Int × Bool), (∀ x ∈ l, ¬ t = x.1) → SC.look t l = (0, 0, false)
  | [], _ => rfl
  | x :: r, h => by rw [SC.look, if_neg (h x (by simp))]; exact SC.look_none r fun y hy => h y (by simp [hy])
namespace W

set_option maxRecDepth 100000 in
set_option maxHeartbeats 1000000 in
theorem Reserved_any (t : List UInt8) (w : World) : Calls Try.prog 66 #[.string ⟨t.toArray⟩] w fun e w' => e = .returned (.bool (SC.resB t)) ∧ w = w' := by
  by_cases h : t ∈ SC.res
  · have HR := Lib.hid (show SC.resB t = true from decide_eq_true h)
    simp only [SC.res, List.mem_cons, List.not_mem_nil, or_false] at h
    rcases h with rfl | rfl | rfl | rfl | rfl | rfl | rfl | rfl | rfl | rfl | rfl | rfl | rfl | rfl | rfl | rfl
    all_goals
      go_enter Try.func66, Try.ntmps66
      go_wp2
      go_ret
      exact ⟨ret_bool HR.out.symm, rfl⟩
  · have HR := Lib.hid (show SC.resB t = false from decide_eq_false h)
    have hn : ∀ x ∈ SC.res, (t == x) = false := fun x hx => by rw [beq_eq_false_iff_ne]; rintro rfl; exact h hx
    have n0 := hn [33] (by decide)
    have n1 := hn [123] (by decide)
    have n2 := hn [125] (by decide)
    have n3 := hn [99, 97, 115, 101] (by decide)
    have n4 := hn [100, 111] (by decide)
    have n5 := hn [100, 111, 110, 101] (by decide)
    have n6 := hn [101, 108, 105, 102] (by decide)
    have n7 := hn [101, 108, 115, 101] (by decide)
    have n8 := hn [101, 115, 97, 99] (by decide)
    have n9 := hn [102, 105] (by decide)
    have n10 := hn [102, 111, 114] (by decide)
    have n11 := hn [105, 102] (by decide)
    have n12 := hn [105, 110] (by decide)
    have n13 := hn [116, 104, 101, 110] (by decide)
    have n14 := hn [117, 110, 116, 105, 108] (by decide)
    have n15 := hn [119, 104, 105, 108, 101] (by decide)
    clear hn h
    go_enter Try.func66, Try.ntmps66
    go_wp2
    go_ret
    exact ⟨ret_bool HR.out.symm, rfl⟩
set_option maxRecDepth 100000 in
set_option maxHeartbeats 1000000 in
theorem Reserved_ref (t : List UInt8) (w : World) : Calls Try.prog 13 #[.string ⟨t.toArray⟩] w fun e w' => e = .returned (.bool (SC.resB t)) ∧ w = w' := by
  by_cases h : t ∈ SC.res
  · have HR := Lib.hid (show SC.resB t = true from decide_eq_true h)
    simp only [SC.res, List.mem_cons, List.not_mem_nil, or_false] at h
    rcases h with rfl | rfl | rfl | rfl | rfl | rfl | rfl | rfl | rfl | rfl | rfl | rfl | rfl | rfl | rfl | rfl
    all_goals
      go_enter Try.func13, Try.ntmps13
      go_wp2
      go_ret
      exact ⟨ret_bool HR.out.symm, rfl⟩
  · have HR := Lib.hid (show SC.resB t = false from decide_eq_false h)
    have hn : ∀ x ∈ SC.res, (t == x) = false := fun x hx => by rw [beq_eq_false_iff_ne]; rintro rfl; exact h hx
    have n0 := hn [33] (by decide)
    have n1 := hn [123] (by decide)
    have n2 := hn [125] (by decide)
    have n3 := hn [99, 97, 115, 101] (by decide)
    have n4 := hn [100, 111] (by decide)
    have n5 := hn [100, 111, 110, 101] (by decide)
    have n6 := hn [101, 108, 105, 102] (by decide)
    have n7 := hn [101, 108, 115, 101] (by decide)
    have n8 := hn [101, 115, 97, 99] (by decide)
    have n9 := hn [102, 105] (by decide)
    have n10 := hn [102, 111, 114] (by decide)
    have n11 := hn [105, 102] (by decide)
    have n12 := hn [105, 110] (by decide)
    have n13 := hn [116, 104, 101, 110] (by decide)
    have n14 := hn [117, 110, 116, 105, 108] (by decide)
    have n15 := hn [119, 104, 105, 108, 101] (by decide)
    clear hn h
    go_enter Try.func13, Try.ntmps13
    go_wp2
    go_ret
    exact ⟨ret_bool HR.out.symm, rfl⟩
def tokV (t : LX.Tok) : Value := .agg #[.int .i64 t.kind, .int .i64 t.pos, .int .i64 t.stop, .string ⟨t.text.toArray⟩]
def SCmiss (t : LX.Tok) : Int := if t.kind = 5 then 7 else 6
set_option maxRecDepth 100000 in
theorem missing_any (t : LX.Tok) (w : World) : Calls Try.prog 23 #[.agg #[.int .i64 t.kind, .int .i64 t.pos, .int .i64 t.stop, .string ⟨t.text.toArray⟩]] w fun e w' => e = .returned (.int .i64 (SCmiss t)) ∧ Below w.heap.size w w' := by
  have h0 := Lib.cell_of_heap (al_new w (.cells #[.int .i64 t.kind, .int .i64 t.pos, .int .i64 t.stop, .string ⟨t.text.toArray⟩] 60)) 0
  by_cases h : t.kind = 5
  · have h5 : ((t.kind : Int) == 5) = true := by rw [beq_iff_eq]; omega
    have HR := Lib.hid (show SCmiss t = 7 from if_pos h)
    go_enter Try.func23, Try.ntmps23
    go_wp2
    go_ret
    exact ⟨ret_int HR.out.symm, balloc _ _⟩
  · have h5 : ((t.kind : Int) == 5) = false := by rw [beq_eq_false_iff_ne]; omega
    have HR := Lib.hid (show SCmiss t = 6 from if_neg h)
    go_enter Try.func23, Try.ntmps23
    go_wp2
    go_ret
    exact ⟨ret_int HR.out.symm, balloc _ _⟩
end W
end Go.Proofs.Ytlhijlmbfjlglaa
namespace Go.Proofs.Ytlhijlmbfjlglaa
open Go.RowKit K
namespace W
set_option maxRecDepth 100000 in
set_option maxHeartbeats 4000000 in
theorem describe_any (t : LX.Tok) (w : World) (a b : Int) (c : Bool) (hD : SC.desc t = (a, b, c)) : Calls Try.prog 24 #[.agg #[.int .i64 t.kind, .int .i64 t.pos, .int .i64 t.stop, .string ⟨t.text.toArray⟩]] w fun e w' => e = .returned (.agg #[.int .i64 a, .int .i64 b, .bool c]) ∧ Below w.heap.size w w' := by
  obtain ⟨k, p, q, x⟩ := t
  dsimp only at hD ⊢
  unfold SC.desc at hD
  dsimp only at hD
  by_cases h2 : k = 2
  · rw [if_pos h2] at hD
    subst h2
    have e2 : ((((2 : Nat) : Int)) != 2) = false := by decide
    by_cases hx : ∃ y ∈ SC.tab, x = y.1
    · obtain ⟨y, hy, rfl⟩ := hx
      simp only [SC.tab, List.mem_cons, List.not_mem_nil, or_false] at hy
      rcases hy with rfl | rfl | rfl | rfl | rfl | rfl | rfl | rfl | rfl
      all_goals
        (simp [SC.look, SC.tab] at hD; obtain ⟨rfl, rfl, rfl⟩ := hD)
        go_enter Try.func24, Try.ntmps24
        go_wp2
        exact bodyPost_ret (v := .agg #[.int .i64 _, .int .i64 _, .bool _]) (by simp [results, Try.results24, go_sem]) rfl ⟨rfl, btr (balloc _ _) (balloc _ _)⟩
    · have hn : ∀ y ∈ SC.tab, (x == y.1) = false := fun y hy => by rw [beq_eq_false_iff_ne]; intro e; exact hx ⟨y, hy, e⟩
      rw [SC.look_none _ fun y hy e => hx ⟨y, hy, e⟩] at hD
      injection hD with h1 h2
      injection h2 with h2 h3
      subst h1 h2 h3
      have n0 := hn ([60], 1, 0, false) (by decide)
      dsimp only at n0
      have n1 := hn ([62], 2, 1, false) (by decide)
      dsimp only at n1
      have n2 := hn ([62, 62], 3, 1, false) (by decide)
      dsimp only at n2
      have n3 := hn ([60, 38], 4, 0, false) (by decide)
      dsimp only at n3
      have n4 := hn ([62, 38], 5, 1, false) (by decide)
      dsimp only at n4
      have n5 := hn ([60, 62], 6, 0, false) (by decide)
      dsimp only at n5
      have n6 := hn ([62, 124], 7, 1, false) (by decide)
      dsimp only at n6
      have n7 := hn ([60, 60], 8, 0, false) (by decide)
      dsimp only at n7
      have n8 := hn ([60, 60, 45], 8, 0, true) (by decide)
      dsimp only at n8
      clear hn hx
      go_enter Try.func24, Try.ntmps24
      go_wp2
      exact bodyPost_ret (v := .agg #[.int .i64 _, .int .i64 _, .bool _]) (by simp [results, Try.results24, go_sem]) rfl ⟨rfl, btr (balloc _ _) (balloc _ _)⟩
  · rw [if_neg h2] at hD
    injection hD with h1 h3
    injection h3 with h3 h4
    subst h1 h3 h4
    have e2 : ((k : Int) != 2) = true := by rw [bne_iff_ne]; omega
    go_enter Try.func24, Try.ntmps24
    go_wp2
    exact bodyPost_ret (v := .agg #[.int .i64 _, .int .i64 _, .bool _]) (by simp [results, Try.results24, go_sem]) rfl ⟨rfl, btr (balloc _ _) (balloc _ _)⟩
end W
end Go.Proofs.Ytlhijlmbfjlglaa
namespace Go.Proofs.Ytlhijlmbfjlglaa
open Go.RowKit K
open WP (GP gp gpL)
def SC.first : List GP → Bool
  | [] => true
  | p :: r => if p.kind = 1 then (if r.isEmpty && SC.resB p.text then false else !(SC.asg p.text).2.2) else true
namespace W
set_option maxRecDepth 100000 in
set_option maxHeartbeats 4000000 in
theorem first_any (v : Value) (l : List GP) (w : World) (hw : Env w) (h : GS w (fun b => b < w.heap.size) v l) (hn : l.length ≤ 1000000) (hz : WP.sizL l ≤ 100000) :
    Calls Try.prog 44 #[v] w fun e w' => e = .returned (.bool (SC.first l)) ∧ Below w.heap.size w w' := by
  obtain ⟨A, cap, rfl⟩ := h.slice
  cases l with
  | nil =>
    go_enter Try.func44, Try.ntmps44
    go_wp2
    go_ret
    exact ⟨rfl, Below.refl _ _⟩
  | cons p r =>
    obtain ⟨b, off, A2, cap2, rfl, hb, g0, g1, g2, g3, g4, -⟩ := h.get (i := 0) (p := p) rfl
    rw [Nat.zero_mul, Nat.add_zero] at g0 g1
    obtain ⟨k, t, o, c, ps⟩ := p
    dsimp only [WP.GP.kind, WP.GP.text] at g0 g1
    have ht : t.length ≤ 100000 := by
      rw [WP.sizL, WP.sizP] at hz
      omega
    obtain ⟨⟨x, y, ok⟩, hA⟩ : ∃ q, SC.asg t = q := ⟨_, rfl⟩
    obtain ⟨n, hnl⟩ : ∃ n, (GP.mk k t o c ps :: r).length = n := ⟨_, rfl⟩
    have hn1 : n = r.length + 1 := by rw [← hnl]; rfl
    have hnz : ((n : Int) == 0) = false := by rw [beq_eq_false_iff_ne]; omega
    have hpos : ((0 : Int) < (n : Int)) = True := eq_true (by omega)
    have hpos2 : 0 < n := by omega
    obtain ⟨R, hR⟩ : ∃ R, SC.first (GP.mk k t o c ps :: r) = R := ⟨_, rfl⟩
    have HF := Lib.hid (show (if k = 1 then (if r.isEmpty && SC.resB t then false else !(SC.asg t).2.2) else true) = R from hR)
    have HAS := Lib.hid (Assignment_any t w hw ht x y ok hA)
    have HRS := Lib.hid (fun V => Reserved_any t V)
    have HA := Lib.hid hA
    rw [hR, hnl]
    clear hR hA hnl g2 g3 g4 h hz hw
    by_cases hk : k = 1
    · subst hk
      have HF1 := Lib.hid ((if_pos rfl).symm.trans HF.out)
      clear HF
      have HFA := Lib.hid (show (r.isEmpty && SC.resB t) = false → (!ok) = R from fun e => by
        have := HF1.out
        rw [e, HA.out] at this
        exact this)
      by_cases h1 : r = []
      · have n1 : n = 1 := by rw [hn1, h1]; rfl
        have e1 : ((n : Int) == 1) = true := by rw [beq_iff_eq]; omega
        clear n1 hn1
        cases hr : SC.resB t with
        | true =>
          have HRR := Lib.hid (show false = R from by have := HF1.out; rw [h1, hr] at this; exact this)
          rw [hr] at HRS
          clear hr
          go_enter Try.func44, Try.ntmps44
          go_wp2_with fail
          refine (HRS.out _).mono ?_
          rintro e w1 ⟨rfl, rfl⟩
          go_wp2
          go_ret
          exact ⟨ret_bool HRR.out, Below.refl _ _⟩
        | false =>
          have HRR := Lib.hid (HFA.out (by rw [hr, Bool.and_false]))
          rw [hr] at HRS
          clear hr
          go_enter Try.func44, Try.ntmps44
          go_wp2_with fail
          refine (HRS.out _).mono ?_
          rintro e w1 ⟨rfl, rfl⟩
          go_wp2_with fail
          refine HAS.out.mono ?_
          rintro e w2 ⟨rfl, hb2⟩
          go_wp2
          go_ret
          exact ⟨ret_bool HRR.out, hb2⟩
      · have e1 : ((n : Int) == 1) = false := by
          have := List.length_pos_iff.2 h1
          rw [beq_eq_false_iff_ne]
          omega
        have HRR := Lib.hid (HFA.out (by rw [show r.isEmpty = false by cases r with | nil => exact absurd rfl h1 | cons _ _ => rfl, Bool.false_and]))
        clear hn1
        go_enter Try.func44, Try.ntmps44
        go_wp2_with fail
        refine HAS.out.mono ?_
        rintro e w2 ⟨rfl, hb2⟩
        go_wp2
        go_ret
        exact ⟨ret_bool HRR.out, hb2⟩
    · have e1 : (k == 1) = false := by rw [beq_eq_false_iff_ne]; exact hk
      have e2 : (k != 1) = true := by rw [bne_iff_ne]; exact hk
      have HRR := Lib.hid ((if_neg hk).symm.trans HF.out)
      clear HF hn1
      go_enter Try.func44, Try.ntmps44
      go_wp2
      go_ret
      exact ⟨ret_bool HRR.out, Below.refl _ _⟩
end W
end Go.Proofs.Ytlhijlmbfjlglaa
namespace Go.Proofs.Ytlhijlmbfjlglaa
open Go.RowKit K
/-- The length of the name at the beginning. -/
def SC.nend : List UInt8 → Nat
  | [] => 0
  | x :: r => if P.wd (P.iv x) = true then SC.nend r + 1 else 0
theorem SC.nend_le : ∀ l : List UInt8, SC.nend l ≤ l.length
  | [] => Nat.le_refl _
  | x :: r => by
    have := SC.nend_le r
    rw [SC.nend]
    split
    · rw [List.length_cons]; omega
    · omega
def SC.asgR (s : List UInt8) : List UInt8 × List UInt8 × Bool :=
  if SC.nend s < s.length ∧ bt s (SC.nend s) = 61 ∧ P.nameB (cut s 0 (SC.nend s)) = true then (cut s 0 (SC.nend s), cut s (SC.nend s + 1) s.length, true) else ([], [], false)
theorem SC.index_cons (x : UInt8) (r : List UInt8) : Lib.index (x :: r) [61] = if x = 61 then 0 else if Lib.index r [61] = -1 then -1 else Lib.index r [61] + 1 := by
  rw [Lib.index]
  by_cases h : x = 61
  · subst h; rfl
  · have : (([61] : List UInt8).isPrefixOf (x :: r)) = false := by
      show ((61 : UInt8) == x && _) = false
      rw [show ((61 : UInt8) == x) = false by rw [beq_eq_false_iff_ne]; exact fun e => h e.symm]
      rfl
    rw [this, if_neg h]
    simp
theorem SC.wd61 {x : UInt8} (h : P.wd (P.iv x) = true) : x ≠ 61 := by
  intro e
  subst e
  exact absurd h (by decide)
/-- Where the name ends before a '=', there is the first '='. -/
theorem SC.index_nend : ∀ s : List UInt8, SC.nend s < s.length → bt s (SC.nend s) = 61 → Lib.index s [61] = (SC.nend s : Int)
  | [], h, _ => absurd h (Nat.not_lt_zero _)
  | x :: r, h, hb => by
    rw [SC.nend] at h hb ⊢
    rw [SC.index_cons]
    by_cases hw : P.wd (P.iv x) = true
    · rw [if_pos hw] at h hb ⊢
      rw [if_neg (SC.wd61 hw)]
      have ih := SC.index_nend r (by rw [List.length_cons] at h; omega) (by rw [bt] at hb ⊢; simpa using hb)
      rw [ih, if_neg (by omega)]
      omega
    · rw [if_neg hw] at h hb ⊢
      have : x = 61 := by
        rw [bt] at hb
        simp only [List.getD_cons_zero] at hb
        have h61 : x.toNat = (61 : UInt8).toNat := by have : (61 : UInt8).toNat = 61 := rfl; omega
        exact UInt8.toNat_inj.1 h61
      rw [if_pos this]
      rfl
/-- A prefix of name bytes ahead of the first '=' ends where the name ends. -/
theorem SC.nend_index : ∀ (s : List UInt8) (n : Nat), Lib.index s [61] = (n : Int) → (s.take n).all (fun x => P.wd (P.iv x)) = true → SC.nend s = n ∧ n < s.length ∧ bt s n = 61
  | [], n, h, _ => by
    have : Lib.index [] [61] = (-1 : Int) := rfl
    omega
  | x :: r, n, h, ha => by
    rw [SC.index_cons] at h
    by_cases hx : x = 61
    · rw [if_pos hx] at h
      have hn : n = 0 := by omega
      subst hn hx
      exact ⟨rfl, by simp, rfl⟩
    · rw [if_neg hx] at h
      by_cases hi : Lib.index r [61] = -1
      · rw [if_pos hi] at h; omega
      · rw [if_neg hi] at h
        have hge := Lib.index_ge r [61]
        obtain ⟨m, rfl⟩ : ∃ m, n = m + 1 := ⟨n - 1, by omega⟩
        rw [List.take_succ_cons, List.all_cons, Bool.and_eq_true] at ha
        obtain ⟨h1, h2, h3⟩ := SC.nend_index r m (by omega) ha.2
        refine ⟨by rw [SC.nend, if_pos ha.1, h1], by rw [List.length_cons]; omega, ?_⟩
        rw [bt] at h3 ⊢
        simpa using h3
theorem SC.asg_R (s : List UInt8) : SC.asgR s = SC.asg s := by
  unfold SC.asgR SC.asg Lib.cut
  by_cases h : SC.nend s < s.length ∧ bt s (SC.nend s) = 61 ∧ P.nameB (cut s 0 (SC.nend s)) = true
  · obtain ⟨h1, h2, h3⟩ := h
    have hi := SC.index_nend s h1 h2
    rw [if_pos ⟨h1, h2, h3⟩, hi, if_pos (show (0 : Int) ≤ (SC.nend s : Int) by omega), Int.toNat_natCast]
    have e1 : cut s 0 (SC.nend s) = s.take (SC.nend s) := rfl
    rw [e1] at h3 ⊢
    rw [if_pos ⟨rfl, h3⟩, cut_end]
    rfl
  · rw [if_neg h]
    by_cases hi : 0 ≤ Lib.index s [61]
    · rw [if_pos hi]
      dsimp only
      by_cases hn : P.nameB (s.take (Lib.index s [61]).toNat) = true
      · exfalso
        apply h
        have ha : (s.take (Lib.index s [61]).toNat).all (fun x => P.wd (P.iv x)) = true := by
          unfold P.nameB at hn
          simp only [Bool.and_eq_true] at hn
          exact hn.2
        obtain ⟨h1, h2, h3⟩ := SC.nend_index s (Lib.index s [61]).toNat (by omega) ha
        rw [h1]
        exact ⟨h2, h3, hn⟩
      · rw [if_neg (fun e => hn e.2)]
    · rw [if_neg hi, if_neg (fun e => absurd (show false = true from e.1) (by decide))]
namespace W
set_option maxRecDepth 100000 in
set_option maxHeartbeats 2000000 in
theorem Name7_ref (l : List UInt8) (w : World) (hl : l.length ≤ 1000000000) : Calls Try.prog 19 #[.string ⟨l.toArray⟩, .int .i64 0] w fun e w' => e = .returned (.int .i64 (SC.nend l)) ∧ w' = w := by
  go_enter Try.func19, Try.ntmps19
  go_wp2
  go_loop [1] (fun i => ∃ k : Nat, k ≤ l.length ∧ i = .int .i64 k ∧ k + SC.nend (l.drop k) = SC.nend l) (fun i => l.length - (intOf i).toNat)
  case atStart => exact ⟨0, Nat.zero_le _, rfl, by simp⟩
  case round =>
    obtain ⟨k, hk, rfl, hno⟩ := hrel
    have HN := Lib.hid hno
    clear hno
    by_cases hlt : k < l.length
    · obtain ⟨x, hx, hb, _⟩ := drop_cons l k hlt
      have HX := Lib.hid hx
      have HB := Lib.hid hb
      clear hx hb
      go_wp2_with (go_at_call 35; refine (Word_any _ _).mono ?_; rintro e w' ⟨rfl, rfl⟩)
      · rename_i h
        go_round
        case rel => exact ⟨k + 1, by omega, by go_num, by rw [HB.out] at h; have h1 := HN.out; rw [HX.out, SC.nend, if_pos (by simpa [P.iv] using h)] at h1; omega⟩
        case measure => simp [intOf]; omega
      · rename_i h
        go_ret
        exact ⟨by rw [HB.out] at h; have h1 := HN.out; rw [HX.out, SC.nend, if_neg (by simpa [P.iv] using h)] at h1; rw [← h1]; rfl, rfl⟩
    · go_wp2
      go_ret
      exact ⟨by have h1 := HN.out; rw [List.drop_eq_nil_of_le (by omega), SC.nend] at h1; rw [← h1]; rfl, rfl⟩
set_option maxRecDepth 100000 in
set_option maxHeartbeats 4000000 in
theorem AssignR_any (s : List UInt8) (w : World) (hl : s.length ≤ 100000) (a b : List UInt8) (ok : Bool) (hA : SC.asgR s = (a, b, ok)) : Calls Try.prog 8 #[.string ⟨s.toArray⟩] w fun e w' => e = .returned (.tuple #[.string ⟨a.toArray⟩, .string ⟨b.toArray⟩, .bool ok]) ∧ Below w.heap.size w w' := by
  have HN := Lib.hid (Name7_ref s w (by omega))
  have hle := SC.nend_le s
  unfold SC.asgR at hA
  obtain ⟨n, hn⟩ : ∃ n, SC.nend s = n := ⟨_, rfl⟩
  rw [hn] at hA HN hle
  have HB := Lib.hid (fun V => Name_ref (cut s 0 n) V (by have := cut_length s 0 n; omega))
  have HA := Lib.hid hA
  clear hn hA
  go_enter Try.func8, Try.ntmps8
  go_wp2_with fail
  refine HN.out.mono ?_
  rintro e w1 ⟨rfl, rfl⟩
  by_cases h1 : n < s.length
  case neg =>
    have h1' : ((n : Int) < (s.length : Int)) = False := eq_false (by omega)
    have he := HA.out.symm.trans (if_neg (fun e => h1 e.1))
    injection he with e1 e2
    injection e2 with e2 e3
    subst e1 e2 e3
    go_wp2
    go_ret3
    exact ⟨rfl, Below.refl _ _⟩
  have h1' : ((n : Int) < (s.length : Int)) = True := eq_true (by omega)
  by_cases h2 : bt s n = 61
  case neg =>
    have h2' : (bt s n == 61) = false := by rw [beq_eq_false_iff_ne]; exact h2
    have he := HA.out.symm.trans (if_neg (fun e => h2 e.2.1))
    injection he with e1 e2
    injection e2 with e2 e3
    subst e1 e2 e3
    go_wp2
    go_ret3
    exact ⟨rfl, Below.refl _ _⟩
  have h2' : (bt s n == 61) = true := by rw [beq_iff_eq]; exact h2
  obtain ⟨c, hc⟩ : ∃ c, P.nameB (cut s 0 n) = c := ⟨_, rfl⟩
  rw [hc] at HB HA
  cases c with
  | false =>
    have he := HA.out.symm.trans (if_neg (fun e => absurd e.2.2 (by decide)))
    injection he with e1 e2
    injection e2 with e2 e3
    subst e1 e2 e3
    go_wp2_with fail
    refine (HB.out _).mono ?_
    rintro e w2 ⟨rfl, rfl⟩
    go_wp2
    go_ret3
    exact ⟨rfl, Below.refl _ _⟩
  | true =>
    have he := HA.out.symm.trans (if_pos ⟨h1, h2, rfl⟩)
    injection he with e1 e2
    injection e2 with e2 e3
    subst e1 e2 e3
    go_wp2_with fail
    refine (HB.out _).mono ?_
    rintro e w2 ⟨rfl, rfl⟩
    go_wp2_with fail
    go_quiet (fail)
    go_wp2
    go_ret3
    exact ⟨rfl, bdN (Below.refl _ _) _⟩
end W
end Go.Proofs.Ytlhijlmbfjlglaa
