/- Quote of chars (out of my texts on chapter 1). -/
import Derived.Test.YtkceenmlhfkkhaaGreatDoorY15
import Derived.Test.YtkceenmlhfkkhaaGreatDoorY21h
import Derived.Test.YtkceenmlhfkkhaaGreatDoorYP
import Derived.Lib.ReplaceLaws
import Derived.Lib.CountLaws
namespace Go.Proofs.YtkceenmlhfkkhaaGreatDoor
open Go.RowKit K
namespace W

theorem Plain_any (l : List UInt8) (w : World) (hl : l.length ≤ 1000000000) :
    Calls Tryz.prog 19 #[.string ⟨l.toArray⟩] w fun e w' => e = .returned (.bool (P.plainB l)) ∧ Below w.heap.size w w' := by
  go_enter Tryz.func19, Tryz.ntmps19
  go_wp2
  go_loopw [] (fun wr => ∃ pos : Nat, pos ≤ l.length ∧ wr.heap[w.heap.size]? = some (.stringIter ⟨l.toArray⟩ pos) ∧ Below w.heap.size w wr ∧ (l.drop pos).all (fun x => P.pl (P.iv x)) = l.all (fun x => P.pl (P.iv x))) (fun wr => l.length - wr.iterPos w.heap.size)
  case atStart =>
    refine ⟨0, by omega, ?_, (Below.refl _ w).alloc (Nat.le_refl _) _, rfl⟩
    have := World.iter_heap w ⟨l.toArray⟩ 0
    simpa using this
  case round =>
    obtain ⟨pos, hk, hit, hbw, hno⟩ := hrel
    have HN := Lib.hid hno
    clear hno
    by_cases hlt : pos < l.length
    · obtain ⟨x, hx, hb, _⟩ := drop_cons l pos hlt
      have HX := Lib.hid hx
      clear hx
      obtain ⟨c, hc⟩ : ∃ c, bt l pos = c := ⟨_, rfl⟩
      have HB : Hid (P.iv x = c) := by rw [← hc, hb]; rfl
      have hc0 : 0 ≤ c := by rw [← hc]; exact bt_nonneg _ _
      clear hb
      have HI := Lib.hid (P.plI_eq c hc0)
      by_cases ha : c < 128
      · have hnx := next_low (P := Tryz.prog) wr w.heap.size l pos hit hlt c hc ha
        clear hc
        have hit2 := Lib.hid (Lib.iterAt_heap wr w.heap.size ⟨l.toArray⟩ pos (pos + 1) hit)
        have hbw2 := Lib.hid (Lib.below_iterAt hbw (k := w.heap.size) (by omega) ⟨l.toArray⟩ (pos + 1))
        by_cases h1 : P.pl c = true
        · have HP := Lib.hid h1
          clear h1
          go_wp2_with (first | (go_at_call 26; refine (letter_any _ _).mono ?_; rintro e w' ⟨rfl, rfl⟩) | (go_at_call 27; refine (digit_any _ _).mono ?_; rintro e w' ⟨rfl, rfl⟩) | (go_at_call 31; refine (Tryz.strings_ContainsRune_ascii _ _ _ hc0 ha).mono ?_; rintro e w' ⟨rfl, rfl⟩))
          all_goals first
            | (go_roundw
               case rel => exact ⟨pos + 1, by omega, hit2.out, hbw2.out, by rw [← HN.out, HX.out, List.all_cons, HB.out, HP.out, Bool.true_and]⟩
               case measure => simp only [World.iterPos, hit2.out, hit]; omega)
            | (exfalso; have := HP.out; rw [← HI.out] at this; go_light; simp_all [P.plI]; done)
            | (exfalso; have := HP.out; rw [← HI.out] at this; go_light; simp_all [P.plI]; omega)
        · have HP := Lib.hid (show P.pl c = false by simpa using h1)
          clear h1
          go_wp2_with (first | (go_at_call 26; refine (letter_any _ _).mono ?_; rintro e w' ⟨rfl, rfl⟩) | (go_at_call 27; refine (digit_any _ _).mono ?_; rintro e w' ⟨rfl, rfl⟩) | (go_at_call 31; refine (Tryz.strings_ContainsRune_ascii _ _ _ hc0 ha).mono ?_; rintro e w' ⟨rfl, rfl⟩))
          all_goals first
            | (go_ret; exact ⟨ret_bool (by unfold P.plainB; rw [← HN.out, HX.out, List.all_cons, HB.out, HP.out]; rfl), hbw2.out⟩)
            | (exfalso; have := HP.out; rw [← HI.out] at this; go_light; simp_all [P.plI]; done)
            | (exfalso; have := HP.out; rw [← HI.out] at this; go_light; simp_all [P.plI]; omega)
      · obtain ⟨r, d, hr, hr2, hd, hnx⟩ := next_high (P := Tryz.prog) wr w.heap.size l pos hit hlt (by omega)
        clear hc
        have hbw2 := Lib.hid (Lib.below_iterAt hbw (k := w.heap.size) (by omega) ⟨l.toArray⟩ (pos + d))
        have h1 := P.lt_high r (by omega)
        have h2 := P.dg_high r (by omega)
        go_wp2_with (first | (go_at_call 26; refine (letter_any _ _).mono ?_; rintro e w' ⟨rfl, rfl⟩) | (go_at_call 27; refine (digit_any _ _).mono ?_; rintro e w' ⟨rfl, rfl⟩))
        go_ret
        exact ⟨ret_bool (by unfold P.plainB; rw [← HN.out, HX.out, List.all_cons, HB.out, P.pl_high c (by omega)]; rfl), hbw2.out⟩
    · have hnx := next_end (P := Tryz.prog) wr w.heap.size l pos hit hlt
      go_wp2
      go_ret
      exact ⟨ret_bool (by unfold P.plainB; rw [← HN.out, List.drop_eq_nil_of_le (by omega)]; cases l <;> simp), hbw⟩
theorem Quote_any (l : List UInt8) (w : World) (hl : l.length ≤ 100000000) (hw : Env w) :
    Calls Tryz.prog 12 #[.string ⟨l.toArray⟩] w fun e w' => e = .returned (.string ⟨(P.quote l).toArray⟩) ∧ Below w.heap.size w w' := by
  by_cases hp : P.plainB l = true
  · have HG := Lib.hid (show P.quote l = l by simp [P.quote, hp])
    go_enter Tryz.func12, Tryz.ntmps12
    go_wp2_with (go_at_call 19; refine (Plain_any _ _ (by omega)).mono ?_)
    rintro e w1 ⟨rfl, hb1⟩
    go_wp2
    go_ret
    exact ⟨ret_str HG.out.symm, hb1⟩
  · have hp' : P.plainB l = false := by simpa using hp
    clear hp
    have HG := Lib.hid (show P.quote l = 39 :: (P.quoteBody l ++ [39]) by simp [P.quote, hp'])
    go_enter Tryz.func12, Tryz.ntmps12
    go_wp2_with (go_at_call 19; refine (Plain_any _ _ (by omega)).mono ?_)
    rintro e w1 ⟨rfl, hb1⟩
    have hw1 := Env_below hw hb1
    obtain ⟨m, hm⟩ := hw1
    have hsz : (ByteArray.mk l.toArray).size = l.length := by simp [ByteArray.size]
    have hcb := Lib.countB_le ⟨#[39]⟩ (by decide) _ ⟨l.toArray⟩ (Nat.le_refl _)
    have hra : Calls Tryz.prog 20 #[.string ⟨l.toArray⟩, .string ⟨#[39]⟩, .string ⟨#[39, 92, 39, 39]⟩] w1 fun e w' => e = .returned (.string ⟨(P.quoteBody l).toArray⟩) ∧ Below w1.heap.size w1 w' := by
      have := Tryz.strings_ReplaceAll ⟨l.toArray⟩ ⟨#[39]⟩ ⟨#[39, 92, 39, 39]⟩ m w1 (by omega) hm (by decide) (by
        show _ + _ * 4 ≤ _
        omega)
      rw [show (ByteArray.mk l.toArray).data.toList = l by simp] at this
      rw [show Lib.replaceAll l (ByteArray.mk #[39]).data.toList (ByteArray.mk #[39, 92, 39, 39]).data.toList = P.quoteBody l from P.replaceAll_quote l] at this
      exact this
    have HR := Lib.hid hra
    have hql := P.quoteBody_le l
    clear hra hcb hsz hm
    go_wp2_with (go_at_call 20; refine HR.out.mono ?_)
    rintro e w2 ⟨rfl, hb2⟩
    go_wp2
    go_ret
    exact ⟨ret_str (by rw [HG.out]), hb1.trans (hb2.mono hb1.size)⟩

end W
end Go.Proofs.YtkceenmlhfkkhaaGreatDoor
