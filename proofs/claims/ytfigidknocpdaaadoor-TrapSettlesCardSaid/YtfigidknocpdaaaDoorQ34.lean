/- Quote of chars and of its reference (out of my texts on chapter 1). -/
import Derived.Test.YtfigidknocpdaaaDoorW34
import Derived.Test.YtfigidknocpdaaaDoorP01b
import Derived.Lib.ReplaceLaws
import Derived.Lib.CountLaws
namespace Go.Proofs.YtfigidknocpdaaaDoor
open Go.RowKit K
namespace W

theorem letter_any (c : Int) (w : World) :
    Calls Tryd.prog 59 #[.int .i32 c] w fun e w' => e = .returned (.bool (P.lt c)) ∧ w = w' := by
  go_enter Tryd.func59, Tryd.ntmps59
  go_wp2
  all_goals go_ret
  all_goals exact ⟨ret_bool (by rw [Bool.eq_iff_iff]; simp [P.lt]; omega), rfl⟩
theorem digit_any (c : Int) (w : World) :
    Calls Tryd.prog 60 #[.int .i32 c] w fun e w' => e = .returned (.bool (P.dg c)) ∧ w = w' := by
  go_enter Tryd.func60, Tryd.ntmps60
  go_wp2
  all_goals go_ret
  all_goals exact ⟨ret_bool (by rw [Bool.eq_iff_iff]; simp [P.dg]; try omega), rfl⟩
theorem Letter_any (c : Int) (w : World) :
    Calls Tryd.prog 77 #[.int .u8 c] w fun e w' => e = .returned (.bool (P.lt c)) ∧ w = w' := by
  go_enter Tryd.func77, Tryd.ntmps77
  go_wp2
  all_goals go_ret
  all_goals exact ⟨ret_bool (by rw [Bool.eq_iff_iff]; simp [P.lt]; omega), rfl⟩
theorem Digit_any (c : Int) (w : World) :
    Calls Tryd.prog 78 #[.int .u8 c] w fun e w' => e = .returned (.bool (P.dg c)) ∧ w = w' := by
  go_enter Tryd.func78, Tryd.ntmps78
  go_wp2
  all_goals go_ret
  all_goals exact ⟨ret_bool (by rw [Bool.eq_iff_iff]; simp [P.dg]; try omega), rfl⟩
theorem Word_any (c : Int) (w : World) :
    Calls Tryd.prog 63 #[.int .u8 c] w fun e w' => e = .returned (.bool (P.wd c)) ∧ w = w' := by
  go_enter Tryd.func63, Tryd.ntmps63
  go_wp2_with (first | (go_at_call 77; refine (Letter_any _ _).mono ?_; rintro e w' ⟨rfl, rfl⟩) | (go_at_call 78; refine (Digit_any _ _).mono ?_; rintro e w' ⟨rfl, rfl⟩))
  all_goals go_ret
  all_goals exact ⟨ret_bool (by simp [P.wd, *]), rfl⟩
theorem Has_any (l : List UInt8) (c : Int) (w : World) (hl : l.length ≤ 1000000000) :
    Calls Tryd.prog 64 #[.string ⟨l.toArray⟩, .int .u8 c] w fun e w' => e = .returned (.bool (P.has l c)) ∧ w = w' := by
  go_enter Tryd.func64, Tryd.ntmps64
  go_wp2
  go_loop [5] (fun i => ∃ k : Nat, k ≤ l.length ∧ i = .int .i64 k ∧ P.has (l.drop k) c = P.has l c) (fun i => l.length - (intOf i).toNat)
  case atStart => exact ⟨0, Nat.zero_le _, rfl, by simp⟩
  case round =>
    obtain ⟨k, hk, rfl, hno⟩ := hrel
    have HN := Lib.hid hno
    clear hno
    by_cases hlt : k < l.length
    · obtain ⟨x, hx, hb, _⟩ := drop_cons l k hlt
      have HX := Lib.hid hx
      have HB := Lib.hid hb
      clear hx hb
      go_wp2
      · rename_i h _
        go_ret
        exact ⟨ret_bool (by rw [← HN.out, HX.out]; rw [HB.out] at h; simp [P.has, P.iv, h]), rfl⟩
      · rename_i h
        go_round
        case rel => exact ⟨k + 1, by omega, by go_num, by rw [← HN.out, HX.out]; rw [HB.out] at h; simp [P.has, P.iv, h]⟩
        case measure => simp [intOf]; omega
    · go_wp2
      go_ret
      exact ⟨ret_bool (by rw [← HN.out, List.drop_eq_nil_of_le (by omega)]; rfl), rfl⟩

theorem Plain_ref (l : List UInt8) (w : World) (hl : l.length ≤ 1000000000) :
    Calls Tryd.prog 55 #[.string ⟨l.toArray⟩] w fun e w' => e = .returned (.bool (P.plainB l)) ∧ w = w' := by
  go_enter Tryd.func55, Tryd.ntmps55
  go_wp2
  go_loop [3] (fun i => ∃ k : Nat, k ≤ l.length ∧ i = .int .i64 k ∧ (l.drop k).all (fun x => P.pl (P.iv x)) = l.all (fun x => P.pl (P.iv x))) (fun i => l.length - (intOf i).toNat)
  case atStart => exact ⟨0, Nat.zero_le _, rfl, by simp⟩
  case round =>
    obtain ⟨k, hk, rfl, hno⟩ := hrel
    have HN := Lib.hid hno
    clear hno
    by_cases hlt : k < l.length
    · obtain ⟨x, hx, hb, _⟩ := drop_cons l k hlt
      have HX := Lib.hid hx
      have HB : Hid (P.iv x = bt l k) := hb.symm
      clear hx hb
      by_cases h1 : P.pl (bt l k) = true
      · have HP := Lib.hid h1
        clear h1
        go_wp2_with (first | (go_at_call 63; refine (Word_any _ _).mono ?_; rintro e w' ⟨rfl, rfl⟩) | (go_at_call 64; refine (Has_any _ _ _ (by simp)).mono ?_; rintro e w' ⟨rfl, rfl⟩))
        all_goals first
          | (go_round
             case rel => exact ⟨k + 1, by omega, by go_num, by rw [← HN.out, HX.out, List.all_cons, HB.out, HP.out, Bool.true_and]⟩
             case measure => simp [intOf]; omega)
          | (exfalso; have := HP.out; go_light; simp_all [P.pl, P.pun]; done)
      · have HP := Lib.hid (show P.pl (bt l k) = false by simpa using h1)
        clear h1
        go_wp2_with (first | (go_at_call 63; refine (Word_any _ _).mono ?_; rintro e w' ⟨rfl, rfl⟩) | (go_at_call 64; refine (Has_any _ _ _ (by simp)).mono ?_; rintro e w' ⟨rfl, rfl⟩))
        all_goals first
          | (go_ret; exact ⟨ret_bool (by unfold P.plainB; rw [← HN.out, HX.out, List.all_cons, HB.out, HP.out]; rfl), rfl⟩)
          | (exfalso; have := HP.out; go_light; simp_all [P.pl, P.pun]; done)
    · go_wp2
      go_ret
      exact ⟨ret_bool (by unfold P.plainB; rw [← HN.out, List.drop_eq_nil_of_le (by omega)]; cases l <;> simp), rfl⟩

theorem Plain_any (l : List UInt8) (w : World) (hl : l.length ≤ 1000000000) :
    Calls Tryd.prog 53 #[.string ⟨l.toArray⟩] w fun e w' => e = .returned (.bool (P.plainB l)) ∧ Below w.heap.size w w' := by
  go_enter Tryd.func53, Tryd.ntmps53
  go_wp2
  go_loopw [] (fun wr => ∃ pos : Nat, pos ≤ l.length ∧ wr.heap[w.heap.size]? = some (.stringIter ⟨l.toArray⟩ pos) ∧ Below w.heap.size w wr ∧ (l.drop pos).all (fun x => P.pl (P.iv x)) = l.all (fun x => P.pl (P.iv x))) (fun wr => l.length - wr.iterPos w.heap.size)
  case atStart =>
    refine ⟨0, by omega, ?_, (Below.refl _ w).alloc (Nat.le_refl _) _, rfl⟩
    have := World.iter_heap w ⟨l.toArray⟩ 0
    simpa using this
  case round =>
    obtain ⟨pos, hk, hit, hbw, hno⟩ := hrel
    have HN := Lib.hid hno
    clear hno
    by_cases hlt : pos < l.length
    · obtain ⟨x, hx, hb, _⟩ := drop_cons l pos hlt
      have HX := Lib.hid hx
      clear hx
      obtain ⟨c, hc⟩ : ∃ c, bt l pos = c := ⟨_, rfl⟩
      have HB : Hid (P.iv x = c) := by rw [← hc, hb]; rfl
      have hc0 : 0 ≤ c := by rw [← hc]; exact bt_nonneg _ _
      clear hb
      have HI := Lib.hid (P.plI_eq c hc0)
      by_cases ha : c < 128
      · have hnx := next_low (P := Tryd.prog) wr w.heap.size l pos hit hlt c hc ha
        clear hc
        have hit2 := Lib.hid (Lib.iterAt_heap wr w.heap.size ⟨l.toArray⟩ pos (pos + 1) hit)
        have hbw2 := Lib.hid (Lib.below_iterAt hbw (k := w.heap.size) (by omega) ⟨l.toArray⟩ (pos + 1))
        by_cases h1 : P.pl c = true
        · have HP := Lib.hid h1
          clear h1
          go_wp2_with (first | (go_at_call 59; refine (letter_any _ _).mono ?_; rintro e w' ⟨rfl, rfl⟩) | (go_at_call 60; refine (digit_any _ _).mono ?_; rintro e w' ⟨rfl, rfl⟩) | (go_at_call 61; refine (Tryd.strings_ContainsRune_ascii _ _ _ hc0 ha).mono ?_; rintro e w' ⟨rfl, rfl⟩))
          all_goals first
            | (go_roundw
               case rel => exact ⟨pos + 1, by omega, hit2.out, hbw2.out, by rw [← HN.out, HX.out, List.all_cons, HB.out, HP.out, Bool.true_and]⟩
               case measure => simp only [World.iterPos, hit2.out, hit]; omega)
            | (exfalso; have := HP.out; rw [← HI.out] at this; go_light; simp_all [P.plI]; done)
            | (exfalso; have := HP.out; rw [← HI.out] at this; go_light; simp_all [P.plI]; omega)
        · have HP := Lib.hid (show P.pl c = false by simpa using h1)
          clear h1
          go_wp2_with (first | (go_at_call 59; refine (letter_any _ _).mono ?_; rintro e w' ⟨rfl, rfl⟩) | (go_at_call 60; refine (digit_any _ _).mono ?_; rintro e w' ⟨rfl, rfl⟩) | (go_at_call 61; refine (Tryd.strings_ContainsRune_ascii _ _ _ hc0 ha).mono ?_; rintro e w' ⟨rfl, rfl⟩))
          all_goals first
            | (go_ret; exact ⟨ret_bool (by unfold P.plainB; rw [← HN.out, HX.out, List.all_cons, HB.out, HP.out]; rfl), hbw2.out⟩)
            | (exfalso; have := HP.out; rw [← HI.out] at this; go_light; simp_all [P.plI]; done)
            | (exfalso; have := HP.out; rw [← HI.out] at this; go_light; simp_all [P.plI]; omega)
      · obtain ⟨r, d, hr, hr2, hd, hnx⟩ := next_high (P := Tryd.prog) wr w.heap.size l pos hit hlt (by omega)
        clear hc
        have hbw2 := Lib.hid (Lib.below_iterAt hbw (k := w.heap.size) (by omega) ⟨l.toArray⟩ (pos + d))
        have h1 := P.lt_high r (by omega)
        have h2 := P.dg_high r (by omega)
        go_wp2_with (first | (go_at_call 59; refine (letter_any _ _).mono ?_; rintro e w' ⟨rfl, rfl⟩) | (go_at_call 60; refine (digit_any _ _).mono ?_; rintro e w' ⟨rfl, rfl⟩))
        go_ret
        exact ⟨ret_bool (by unfold P.plainB; rw [← HN.out, HX.out, List.all_cons, HB.out, P.pl_high c (by omega)]; rfl), hbw2.out⟩
    · have hnx := next_end (P := Tryd.prog) wr w.heap.size l pos hit hlt
      go_wp2
      go_ret
      exact ⟨ret_bool (by unfold P.plainB; rw [← HN.out, List.drop_eq_nil_of_le (by omega)]; cases l <;> simp), hbw⟩
theorem Quote_ref (l : List UInt8) (w : World) (hl : l.length ≤ 100000000) :
    Calls Tryd.prog 47 #[.string ⟨l.toArray⟩] w fun e w' => e = .returned (.string ⟨(P.quote l).toArray⟩) ∧ w = w' := by
  by_cases hp : P.plainB l = true
  · have HG := Lib.hid (show P.quote l = l by simp [P.quote, hp])
    go_enter Tryd.func47, Tryd.ntmps47
    go_wp2_with (go_at_call 55; refine (Plain_ref _ _ (by omega)).mono ?_; rintro e w' ⟨rfl, rfl⟩)
    go_ret
    exact ⟨ret_str HG.out.symm, rfl⟩
  · have hp' : P.plainB l = false := by simpa using hp
    clear hp
    have HG := Lib.hid (show P.quote l = 39 :: (P.quoteBody l ++ [39]) by simp [P.quote, hp'])
    go_enter Tryd.func47, Tryd.ntmps47
    go_wp2_with (go_at_call 55; refine (Plain_ref _ _ (by omega)).mono ?_; rintro e w' ⟨rfl, rfl⟩)
    go_loop [3, 4] (fun o i => ∃ (k : Nat) (q : List UInt8), k ≤ l.length ∧ i = .int .i64 k ∧ o = .string ⟨q.toArray⟩ ∧ q.length ≤ 4 * k + 1 ∧ q ++ P.quoteBody (l.drop k) = 39 :: P.quoteBody l) (fun _ i => l.length - (intOf i).toNat)
    case atStart => exact ⟨0, [39], by omega, rfl, rfl, by simp, by simp⟩
    case round =>
      obtain ⟨k, q, hk, rfl, rfl, hq, hno⟩ := hrel
      have HN := Lib.hid hno
      clear hno
      by_cases hlt : k < l.length
      · obtain ⟨x, hx, hb, _⟩ := drop_cons l k hlt
        have HX := Lib.hid hx
        have HB := Lib.hid hb
        clear hx hb
        have HC := Lib.hid (cut_one l k hlt)
        go_wp2
        · rename_i h
          go_round
          case rel =>
            refine ⟨k + 1, q ++ [39, 92, 39, 39], by omega, by go_num, rfl, by simp; omega, ?_⟩
            rw [← HN.out, HX.out, P.quoteBody, show P.iv x = bt l k from HB.out.symm, h]; simp
          case measure => simp [intOf]; omega
        · rename_i h
          go_round
          case rel =>
            refine ⟨k + 1, q ++ cut l k (k + 1), by omega, by go_num, rfl, by simp; omega, ?_⟩
            rw [← HN.out, HX.out, P.quoteBody, show P.iv x = bt l k from HB.out.symm, h, HC.out, by8_bt HB.out]; simp
          case measure => simp [intOf]; omega
      · have HE := Lib.hid (drop_end l k hlt)
        go_wp2
        go_ret
        exact ⟨ret_str (by rw [HG.out, ← List.cons_append, ← HN.out, HE.out]; simp [P.quoteBody]), rfl⟩

theorem Quote_any (l : List UInt8) (w : World) (hl : l.length ≤ 100000000) (hw : Env w) :
    Calls Tryd.prog 46 #[.string ⟨l.toArray⟩] w fun e w' => e = .returned (.string ⟨(P.quote l).toArray⟩) ∧ Below w.heap.size w w' := by
  by_cases hp : P.plainB l = true
  · have HG := Lib.hid (show P.quote l = l by simp [P.quote, hp])
    go_enter Tryd.func46, Tryd.ntmps46
    go_wp2_with (go_at_call 53; refine (Plain_any _ _ (by omega)).mono ?_)
    rintro e w1 ⟨rfl, hb1⟩
    go_wp2
    go_ret
    exact ⟨ret_str HG.out.symm, hb1⟩
  · have hp' : P.plainB l = false := by simpa using hp
    clear hp
    have HG := Lib.hid (show P.quote l = 39 :: (P.quoteBody l ++ [39]) by simp [P.quote, hp'])
    go_enter Tryd.func46, Tryd.ntmps46
    go_wp2_with (go_at_call 53; refine (Plain_any _ _ (by omega)).mono ?_)
    rintro e w1 ⟨rfl, hb1⟩
    have hw1 := hw.below hb1
    obtain ⟨m, hm⟩ := hw1.maxlen
    have hsz : (ByteArray.mk l.toArray).size = l.length := by simp [ByteArray.size]
    have hcb := Lib.countB_le ⟨#[39]⟩ (by decide) _ ⟨l.toArray⟩ (Nat.le_refl _)
    have hra : Calls Tryd.prog 54 #[.string ⟨l.toArray⟩, .string ⟨#[39]⟩, .string ⟨#[39, 92, 39, 39]⟩] w1 fun e w' => e = .returned (.string ⟨(P.quoteBody l).toArray⟩) ∧ Below w1.heap.size w1 w' := by
      have := Tryd.strings_ReplaceAll ⟨l.toArray⟩ ⟨#[39]⟩ ⟨#[39, 92, 39, 39]⟩ m w1 (by omega) hm (by decide) (by
        show _ + _ * 4 ≤ _
        omega)
      rw [show (ByteArray.mk l.toArray).data.toList = l by simp] at this
      rw [show Lib.replaceAll l (ByteArray.mk #[39]).data.toList (ByteArray.mk #[39, 92, 39, 39]).data.toList = P.quoteBody l from P.replaceAll_quote l] at this
      exact this
    have HR := Lib.hid hra
    have hql := P.quoteBody_le l
    clear hra hcb hsz hm
    go_wp2_with (go_at_call 54; refine HR.out.mono ?_)
    rintro e w2 ⟨rfl, hb2⟩
    go_wp2
    go_ret
    exact ⟨ret_str (by rw [HG.out]), hb1.trans (hb2.mono hb1.size)⟩

end W
end Go.Proofs.YtfigidknocpdaaaDoor
