/- Words: numeral and text of the writer. -/
import Derived.Test.YtlhijlmbfjlglaaG08f
import Derived.StillTailTactics
namespace Go.Proofs.Ytlhijlmbfjlglaa
open Go.RowKit K
open WP (GP gp gpL)
namespace W
theorem num_drop {t : List UInt8} {k : Nat} (h : k < t.length) : LX.number (t.drop k) = (LX.digit (bt t k) && LX.number (t.drop (k + 1))) := by
  obtain ⟨x, hx, hb, _⟩ := drop_cons t k h
  rw [hx, hb]
  rfl
set_option maxRecDepth 100000 in
theorem numeral_any (t : List UInt8) (w : World) (ht : t.length ≤ 1000000) : Calls Try.prog 87 #[.string ⟨t.toArray⟩] w fun e w' => e = .returned (.bool (LX.number t)) ∧ w = w' := by
  obtain ⟨R, hR⟩ : ∃ R, LX.number t = R := ⟨_, rfl⟩
  rw [hR]
  have HR := Lib.hid (show LX.number (t.drop 0) = R from hR)
  have HD := Lib.hid (fun (c : Int) (V : World) => wd_digit c V)
  clear hR
  go_enter Try.func87, Try.ntmps87
  go_wp2
  go_loop [3] (fun i => ∃ k : Nat, k ≤ t.length ∧ i = .int .i64 k ∧ Hid (LX.number (t.drop k) = R)) (fun i => t.length - (intOf i).toNat)
  case atStart => exact ⟨0, Nat.zero_le _, rfl, HR⟩
  case round =>
    obtain ⟨k, hk, rfl, HN⟩ := hrel
    by_cases hlt : k < t.length
    · have HQ := Lib.hid (num_drop hlt)
      obtain ⟨b, hb⟩ : ∃ b, LX.digit (bt t k) = b := ⟨_, rfl⟩
      have HDB := HD.out (bt t k)
      rw [hb] at HQ HDB
      replace HDB := Lib.hid HDB
      clear hb
      rcases (show b = true ∨ b = false by cases b <;> simp) with rfl | rfl
      · have HF := Lib.hid (show LX.number (t.drop (k + 1)) = R by rw [← HN.out, HQ.out, Bool.true_and])
        go_wp2_with fail
        refine (HDB.out _).mono ?_
        rintro e w' ⟨rfl, rfl⟩
        go_wp2
        go_round
        case rel => exact ⟨k + 1, hlt, by go_num, HF⟩
        case measure => simp [intOf]; omega
      · have HF := Lib.hid (show R = false by rw [← HN.out, HQ.out, Bool.false_and])
        go_wp2_with fail
        refine (HDB.out _).mono ?_
        rintro e w' ⟨rfl, rfl⟩
        go_wp2
        go_ret
        exact ⟨ret_bool HF.out.symm, rfl⟩
    · have HF := Lib.hid (show R = true by rw [← HN.out, List.drop_eq_nil_of_le (by omega)]; rfl)
      go_wp2
      go_ret
      exact ⟨ret_bool HF.out.symm, rfl⟩
theorem esc_take {pl : Nat} {op : Bool} {t : List UInt8} {k : Nat} (h : k < t.length) : WP.escT pl op (t.take (k + 1)) = WP.escT pl op (t.take k) ++ (if WP.escapes pl (bt t k) op = true then [92, by8 (bt t k)] else [by8 (bt t k)]) := by
  obtain ⟨x, hx, hb, hg⟩ := drop_cons t k h
  have : t.take (k + 1) = t.take k ++ [x] := by rw [List.take_add_one, hg]; rfl
  rw [this, WP.escT_append, hb, by8_of, WP.escT, WP.escT, List.append_nil]
theorem esc_le (pl : Nat) (op : Bool) (t : List UInt8) (k : Nat) : (WP.escT pl op (t.take k)).length ≤ 2 * t.length := by
  have := WP.escT_len pl op (t.take k)
  have := List.length_take_le' k t
  omega
set_option maxRecDepth 100000 in
set_option maxHeartbeats 2000000 in
theorem text_any (g : Nat) (l t : List UInt8) (pl : Nat) (op x : Bool) (w : World) (h : WB g l x w) (hl : l.length ≤ 50000000) (ht : t.length ≤ 1000000) :
    Calls Try.prog 72 #[.pointer (some ⟨g, 0, none⟩), .string ⟨t.toArray⟩, .int .i64 pl, .bool op] w fun e w' => e = .returned (.tuple #[]) ∧ WB g (l ++ WP.escT pl op t) x w' ∧ Bkept g w w' := by
  have HW := Lib.hid (show WB g (l ++ WP.escT pl op (t.take 0)) x w from by rw [List.take_zero, WP.escT, List.append_nil]; exact h)
  have HL := Lib.hid (fun k => show (l ++ WP.escT pl op (t.take k)).length ≤ 60000000 from by have := esc_le pl op t k; rw [List.length_append]; omega)
  have HGL := Lib.hid h.lt
  clear h hl
  go_enter Try.func72, Try.ntmps72
  go_wp2
  go_loopw [8] (fun i wr => ∃ k : Nat, k ≤ t.length ∧ i = .int .i64 k ∧ Hid (WB g (l ++ WP.escT pl op (t.take k)) x wr) ∧ Hid (Bkept g w wr)) (fun i _ => t.length - (intOf i).toNat)
  case atStart => exact ⟨0, Nat.zero_le _, rfl, HW, Lib.hid (Bkept.refl _ _)⟩
  case round =>
    obtain ⟨k, hk, rfl, HB, HK⟩ := hrel
    by_cases hlt : k < t.length
    · have HT := Lib.hid (esc_take (pl := pl) (op := op) hlt)
      have HLk := Lib.hid (show (l ++ WP.escT pl op (t.take k)).length ≤ 60000000 from HL.out k)
      obtain ⟨z, hz⟩ : ∃ z, bt t k = z := ⟨_, rfl⟩
      have hz0 := bt_nonneg t k
      have hz1 := bt_le t k
      have HES := Lib.hid (fun V => escapes_any pl (bt t k) op V)
      rw [hz] at HT hz0 hz1 HES
      have HBY := Lib.hid (by8_toNat z hz0 hz1)
      obtain ⟨b, hb⟩ : ∃ b, WP.escapes pl z op = b := ⟨_, rfl⟩
      rw [hb] at HES HT
      clear hb
      obtain ⟨acc, hacc⟩ : ∃ acc, l ++ WP.escT pl op (t.take k) = acc := ⟨_, rfl⟩
      have HAC := Lib.hid hacc
      rw [hacc] at HB HLk
      clear hacc
      have k0 : (0 : Int) ≤ (k : Int) := by omega
      have k1 : ((k : Int) < (t.length : Int)) = True := eq_true (by omega)
      have w1 : IntKind.i64.wrap ((k : Int) + 1) = (k : Int) + 1 := IntWalk.i64_in _ (by omega)
      rcases (show b = true ∨ b = false by cases b <;> simp) with rfl | rfl
      · have HF := Lib.hid (show l ++ WP.escT pl op (t.take (k + 1)) = acc ++ [92] ++ [by8 z] by rw [HT.out, ← List.append_assoc, HAC.out, if_pos rfl, List.append_assoc]; rfl)
        have HW1 := Lib.hid (writeByteW g acc 92 x wr HB.out (by have := HLk.out; omega))
        go_wp2_with fail
        refine (HES.out _).mono ?_
        rintro e w1 ⟨rfl, rfl⟩
        go_wp2_with fail
        refine HW1.out.mono ?_
        rintro e Y ⟨rfl, hby, hky⟩
        have HY := Lib.hid hby
        have HKY := Lib.hid (HK.out.trans hky)
        have HW2 := Lib.hid (show Calls Try.prog 71 #[.pointer (some ⟨g, 0, none⟩), .int .u8 z] Y.drew fun e w' => e = .returned .nilIface ∧ WB g (acc ++ [92] ++ [by8 z]) x w' ∧ Bkept g Y.drew w' from by
          have := writeByteW g (acc ++ [92]) (by8 z) x Y.drew (hby.below (Below.refl _ _).drew) (by have := HLk.out; rw [List.length_append, List.length_singleton]; omega)
          rwa [HBY.out] at this)
        have HDY := Lib.hid (Bkept.of_below (Below.refl Y.heap.size Y).drew (Nat.le_of_lt hby.lt))
        clear hby hky
        go_wp2_with fail
        refine wp_region_still_tail 6 (by kernel_rfl) (by kernel_rfl) ?_
        simp only [List.take_succ_cons, List.take_zero, List.drop_succ_cons, List.drop_zero]
        repeat still_step
        refine wpStill_nil ?_
        change wpList _ _ _ _ _ Y.drew
        go_wp2_with fail
        refine HW2.out.mono ?_
        rintro e Z ⟨rfl, hbz, hkz⟩
        have HZ := Lib.hid hbz
        have HKZ := Lib.hid ((HKY.out.trans HDY.out).trans hkz)
        clear hbz hkz
        go_wp2
        go_roundw
        case rel => exact ⟨k + 1, hlt, by go_num, Lib.hid (by rw [HF.out]; exact HZ.out), HKZ⟩
        case measure => simp [intOf]; omega
      · have HF := Lib.hid (show l ++ WP.escT pl op (t.take (k + 1)) = acc ++ [by8 z] by rw [HT.out, ← List.append_assoc, HAC.out, if_neg (by simp)])
        have HW2 := Lib.hid (show Calls Try.prog 71 #[.pointer (some ⟨g, 0, none⟩), .int .u8 z] wr.drew fun e w' => e = .returned .nilIface ∧ WB g (acc ++ [by8 z]) x w' ∧ Bkept g wr.drew w' from by
          have := writeByteW g acc (by8 z) x wr.drew (HB.out.below (Below.refl _ _).drew) (by have := HLk.out; omega)
          rwa [HBY.out] at this)
        have HDY := Lib.hid (Bkept.of_below (Below.refl wr.heap.size wr).drew (Nat.le_of_lt HB.out.lt))
        go_wp2_with fail
        refine (HES.out _).mono ?_
        rintro e w1 ⟨rfl, rfl⟩
        go_wp2_with fail
        refine wp_region_still_tail 6 (by kernel_rfl) (by kernel_rfl) ?_
        simp only [List.take_succ_cons, List.take_zero, List.drop_succ_cons, List.drop_zero]
        repeat still_step
        refine wpStill_nil ?_
        change wpList _ _ _ _ _ wr.drew
        go_wp2_with fail
        refine HW2.out.mono ?_
        rintro e Z ⟨rfl, hbz, hkz⟩
        have HZ := Lib.hid hbz
        have HKZ := Lib.hid ((HK.out.trans HDY.out).trans hkz)
        clear hbz hkz
        go_wp2
        go_roundw
        case rel => exact ⟨k + 1, hlt, by go_num, Lib.hid (by rw [HF.out]; exact HZ.out), HKZ⟩
        case measure => simp [intOf]; omega
    · have HF := Lib.hid (show l ++ WP.escT pl op (t.take k) = l ++ WP.escT pl op t by rw [List.take_of_length_le (by omega)])
      go_wp2
      go_end0
      exact ⟨rfl, by rw [← HF.out]; exact HB.out, HK.out⟩
end W
end Go.Proofs.Ytlhijlmbfjlglaa
