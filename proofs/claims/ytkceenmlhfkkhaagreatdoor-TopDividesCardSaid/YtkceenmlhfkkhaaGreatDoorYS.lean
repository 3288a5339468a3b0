/- Several texts in one: W18a W18b W18c W18d W18e W18f. -/
import Derived.Test.YtkceenmlhfkkhaaGreatDoorY15
import Derived.Test.YtkceenmlhfkkhaaGreatDoorY18
import Derived.Test.YtkceenmlhfkkhaaGreatDoorBldS
import Derived.Maps.AppendAt
import Derived.Deep.DeepCutAuto
import Derived.Deep.RegionHeldLaw
import Derived.Deep.RegionHeld
import Derived.Deep.QuietTactic
namespace Go.Proofs.YtkceenmlhfkkhaaGreatDoor
open Go.RowKit K
namespace W
set_option maxRecDepth 100000
/-- Strings with an int. -/
abbrev R2 (w : World) (v : Value) (l : List (List UInt8 × Int)) : Prop := RV 2 e2 w v l
theorem R2.get {w : World} {A : Option Addr} {n cap : Nat} {l : List (List UInt8 × Int)} (h : R2 w (.slice A n cap) l) {i : Nat} {x : List UInt8 × Int} (hi : l[i]? = some x) :
    ∃ b off, A = some ⟨b, off, none⟩ ∧ b < w.heap.size ∧ w.cell? ⟨b, off + i * 2, none⟩ = some (.string ⟨x.1.toArray⟩) ∧ w.cell? ⟨b, off + i * 2 + 1, none⟩ = some (.int .i64 x.2) := by
  obtain ⟨b, off, h1, h2, h3⟩ := RV.get h hi
  exact ⟨b, off, h1, h2, h3 0 _ rfl, h3 1 _ rfl⟩
def fsts (l : List (List UInt8 × Int)) : List UInt8 := l.flatMap Prod.fst
theorem fsts_drop {l : List (List UInt8 × Int)} {k : Nat} {x : List UInt8 × Int} (h : l[k]? = some x) : fsts (l.drop k) = x.1 ++ fsts (l.drop (k + 1)) := by
  obtain ⟨hk, rfl⟩ := List.getElem?_eq_some_iff.1 h
  rw [List.drop_eq_getElem_cons hk]
  rfl
theorem WriteString_b (b : Nat) (l s : List UInt8) (w : World) (h : Bld b l w) (hlen : l.length ≤ 1000000) (hs : s.length ≤ 1000000) :
    Calls Tryz.prog 46 #[.pointer (some ⟨b, 0, none⟩), .string ⟨s.toArray⟩] w fun e w' => e = .returned (.tuple #[.int .i64 s.length, .nilIface]) ∧ Bld b (l ++ s) w' ∧ Below b w w' :=
  (WriteString_k b l s w h (by omega) (by omega)).mono fun _ _ ⟨h1, h2, h3⟩ => ⟨h1, h2, h3.below⟩
set_option maxHeartbeats 4000000 in
theorem Text_any (l : List (List UInt8 × Int)) (v : Value) (w : World) (hv : R2 w v l) (hl : l.length ≤ 1000000) (hz : (fsts l).length ≤ 1000000) :
    Calls Tryz.prog 39 #[v] w fun e w' => e = .returned (.string ⟨(fsts l).toArray⟩) ∧ Below w.heap.size w w' := by
  obtain ⟨A, cap, rfl, -⟩ := hv.slice
  obtain ⟨R, hR⟩ : ∃ R, fsts l = R := ⟨_, rfl⟩
  rw [hR]
  have HR := Lib.hid (show [] ++ fsts (l.drop 0) = R from hR)
  have HZ := Lib.hid (show R.length ≤ 1000000 by rw [← hR]; exact hz)
  obtain ⟨V, hV⟩ : ∃ V, V = w.alloc (.cells #[.pointer none, .slice none 0 0] 103) := ⟨_, rfl⟩
  have HBV := Lib.hid (show Bld w.heap.size [] V from by
    unfold Bld
    refine .inl ⟨Nat.le_refl _, .slice none 0 0, ?_, ⟨rfl, .inl ⟨rfl, rfl⟩⟩, by simp [Value.ownBlock]⟩
    rw [hV]
    exact al_new w _)
  have HWV := Lib.hid (show Below w.heap.size w V by rw [hV]; exact balloc _ _)
  have HV := Lib.hid hV
  have HVV := Lib.hid hv
  clear hR hv hz hV
  go_enter Tryz.func39, Tryz.ntmps39
  go_wp2
  rw [← HV.out]
  go_loopw [8] (fun i wr => ∃ (k : Nat) (acc : List UInt8), k ≤ l.length ∧ i = .int .i64 k ∧ Hid (acc ++ fsts (l.drop k) = R) ∧ Hid (Bld w.heap.size acc wr) ∧ Hid (Below w.heap.size w wr)) (fun i _ => l.length - (intOf i).toNat)
  case atStart => exact ⟨0, [], Nat.zero_le _, rfl, HR, HBV, HWV⟩
  case round =>
    obtain ⟨k, acc, hk, rfl, HN, HBL, HB⟩ := hrel
    have HLT := Lib.hid HBL.out.lt
    by_cases hlt : k < l.length
    · obtain ⟨x, hx⟩ : ∃ x, l[k]? = some x := ⟨_, List.getElem?_eq_getElem hlt⟩
      obtain ⟨bb, off, rfl, hbl, g0, g1⟩ := R2.get (HVV.out.below HB.out) hx
      have HD := Lib.hid (fsts_drop hx)
      clear hx
      obtain ⟨X, hX⟩ : ∃ X, X = wr.alloc (.cells #[.string ⟨x.1.toArray⟩, .int .i64 x.2] 121) := ⟨_, rfl⟩
      have HX := Lib.hid hX
      have HBX := Lib.hid (show Below wr.heap.size wr X by rw [hX]; exact balloc _ _)
      have HXB := Lib.hid (show Bld w.heap.size acc X from HBL.out.below HBX.out)
      have HF := Lib.hid (show (acc ++ x.1) ++ fsts (l.drop (k + 1)) = R by rw [← HN.out, HD.out, List.append_assoc])
      have HWS := Lib.hid (WriteString_b w.heap.size acc x.1 X HXB.out (by have h1 := HN.out; have h2 := HZ.out; rw [← h1, List.length_append] at h2; omega) (by have h1 := HF.out; have h2 := HZ.out; rw [← h1, List.length_append, List.length_append] at h2; omega))
      have hxp : X.heap[wr.heap.size]? = some (.cells #[.string ⟨x.1.toArray⟩, .int .i64 x.2] 121 (0, 0)) := by rw [hX]; exact al_new wr _
      have x0 := Lib.cell_of_heap hxp 0
      have hwsr := HLT.out
      clear hX hxp
      go_wp2_with fail
      rw [← HX.out]
      refine HWS.out.mono ?_
      rintro e Y ⟨rfl, hby, hwy⟩
      have HBY := Lib.hid hby
      have HWY := Lib.hid ((HB.out.trans (HBX.out.mono HB.out.size)).trans hwy)
      clear hby hwy
      go_wp2
      go_roundw
      case rel => exact ⟨k + 1, acc ++ x.1, hlt, by go_num, HF, HBY, HWY⟩
      case measure => simp [intOf]; omega
    · have HF := Lib.hid (show R = acc by rw [← HN.out, List.drop_eq_nil_of_le (by omega)]; exact (List.append_nil acc))
      have HST := Lib.hid (Tryz.Builder_String_any_k w.heap.size w.heap.size acc wr HBL.out (by have := HLT.out; omega))
      go_wp2_with fail
      refine HST.out.mono ?_
      rintro e Y ⟨rfl, -, hby, -⟩
      have HBY := Lib.hid (HB.out.trans hby)
      clear hby
      go_wp2
      go_ret
      rw [HF.out]
      exact ⟨rfl, HBY.out⟩
set_option maxHeartbeats 4000000 in
theorem joinE_any (l : List (List UInt8 × Int)) (v : Value) (w : World) (hv : R2 w v l) (hl : l.length ≤ 1000000) (hz : (fsts l).length ≤ 1000000) :
    Calls Tryz.prog 97 #[v] w fun e w' => e = .returned (.string ⟨(fsts l).toArray⟩) ∧ Below w.heap.size w w' := by
  obtain ⟨A, cap, rfl, -⟩ := hv.slice
  obtain ⟨R, hR⟩ : ∃ R, fsts l = R := ⟨_, rfl⟩
  rw [hR]
  have HR := Lib.hid (show [] ++ fsts (l.drop 0) = R from hR)
  have HZ := Lib.hid (show R.length ≤ 1000000 by rw [← hR]; exact hz)
  obtain ⟨V, hV⟩ : ∃ V, V = w.alloc (.cells #[.pointer none, .slice none 0 0] 103) := ⟨_, rfl⟩
  have HBV := Lib.hid (show Bld w.heap.size [] V from by
    unfold Bld
    refine .inl ⟨Nat.le_refl _, .slice none 0 0, ?_, ⟨rfl, .inl ⟨rfl, rfl⟩⟩, by simp [Value.ownBlock]⟩
    rw [hV]
    exact al_new w _)
  have HWV := Lib.hid (show Below w.heap.size w V by rw [hV]; exact balloc _ _)
  have HV := Lib.hid hV
  have HVV := Lib.hid hv
  clear hR hv hz hV
  go_enter Tryz.func97, Tryz.ntmps97
  go_wp2
  rw [← HV.out]
  go_loopw [8] (fun i wr => ∃ (k : Nat) (acc : List UInt8), k ≤ l.length ∧ i = .int .i64 k ∧ Hid (acc ++ fsts (l.drop k) = R) ∧ Hid (Bld w.heap.size acc wr) ∧ Hid (Below w.heap.size w wr)) (fun i _ => l.length - (intOf i).toNat)
  case atStart => exact ⟨0, [], Nat.zero_le _, rfl, HR, HBV, HWV⟩
  case round =>
    obtain ⟨k, acc, hk, rfl, HN, HBL, HB⟩ := hrel
    have HLT := Lib.hid HBL.out.lt
    by_cases hlt : k < l.length
    · obtain ⟨x, hx⟩ : ∃ x, l[k]? = some x := ⟨_, List.getElem?_eq_getElem hlt⟩
      obtain ⟨bb, off, rfl, hbl, g0, g1⟩ := R2.get (HVV.out.below HB.out) hx
      have HD := Lib.hid (fsts_drop hx)
      clear hx
      obtain ⟨X, hX⟩ : ∃ X, X = wr.alloc (.cells #[.string ⟨x.1.toArray⟩, .int .i64 x.2] 170) := ⟨_, rfl⟩
      have HX := Lib.hid hX
      have HBX := Lib.hid (show Below wr.heap.size wr X by rw [hX]; exact balloc _ _)
      have HXB := Lib.hid (show Bld w.heap.size acc X from HBL.out.below HBX.out)
      have HF := Lib.hid (show (acc ++ x.1) ++ fsts (l.drop (k + 1)) = R by rw [← HN.out, HD.out, List.append_assoc])
      have HWS := Lib.hid (WriteString_b w.heap.size acc x.1 X HXB.out (by have h1 := HN.out; have h2 := HZ.out; rw [← h1, List.length_append] at h2; omega) (by have h1 := HF.out; have h2 := HZ.out; rw [← h1, List.length_append, List.length_append] at h2; omega))
      have hxp : X.heap[wr.heap.size]? = some (.cells #[.string ⟨x.1.toArray⟩, .int .i64 x.2] 170 (0, 0)) := by rw [hX]; exact al_new wr _
      have x0 := Lib.cell_of_heap hxp 0
      have hwsr := HLT.out
      clear hX hxp
      go_wp2_with fail
      rw [← HX.out]
      refine HWS.out.mono ?_
      rintro e Y ⟨rfl, hby, hwy⟩
      have HBY := Lib.hid hby
      have HWY := Lib.hid ((HB.out.trans (HBX.out.mono HB.out.size)).trans hwy)
      clear hby hwy
      go_wp2
      go_roundw
      case rel => exact ⟨k + 1, acc ++ x.1, hlt, by go_num, HF, HBY, HWY⟩
      case measure => simp [intOf]; omega
    · have HF := Lib.hid (show R = acc by rw [← HN.out, List.drop_eq_nil_of_le (by omega)]; exact (List.append_nil acc))
      have HST := Lib.hid (Tryz.Builder_String_any_k w.heap.size w.heap.size acc wr HBL.out (by have := HLT.out; omega))
      go_wp2_with fail
      refine HST.out.mono ?_
      rintro e Y ⟨rfl, -, hby, -⟩
      have HBY := Lib.hid (HB.out.trans hby)
      clear hby
      go_wp2
      go_ret
      rw [HF.out]
      exact ⟨rfl, HBY.out⟩
end W
end Go.Proofs.YtkceenmlhfkkhaaGreatDoor
namespace Go.Proofs.YtkceenmlhfkkhaaGreatDoor
open Go.RowKit K
namespace SP
theorem sep_ix (b : Bool) (c : UInt8) : decide (0 ≤ Lib.indexByte (ifs b) c) = (b && decide (c = 32 ∨ c = 9 ∨ c = 10)) := by
  cases b with
  | false => rfl
  | true =>
    show decide (0 ≤ Lib.indexByte [32, 9, 10] c) = (true && _)
    rw [Bool.true_and]
    by_cases h1 : c = 32
    · subst h1; rfl
    by_cases h2 : c = 9
    · subst h2; rfl
    by_cases h3 : c = 10
    · subst h3; rfl
    have n1 : ¬ (32 : UInt8) = c := fun e => h1 e.symm
    have n2 : ¬ (9 : UInt8) = c := fun e => h2 e.symm
    have n3 : ¬ (10 : UInt8) = c := fun e => h3 e.symm
    simp [Lib.indexByte, h1, h2, h3, n1, n2, n3]
theorem sep_one (b : Bool) (c : UInt8) : sep b ([c], 2) = (b && decide (c = 32 ∨ c = 9 ∨ c = 10)) := by unfold sep; simp
theorem ok_two {x : El} (h : ok x) (h2 : x.2 = 2) : ∃ c, x = ([c], 2) := by
  obtain ⟨t, k⟩ := x
  dsimp only at h2
  subst h2
  have := h.2 rfl
  cases t with
  | nil => simp at this
  | cons c r => cases r with
    | nil => exact ⟨c, rfl⟩
    | cons => simp at this
end SP
namespace W
set_option maxRecDepth 100000
theorem separates_any (b : Bool) (x : List UInt8 × Int) (w : World) (hx : SP.ok x) :
    Calls Tryz.prog 96 #[.agg #[.string ⟨x.1.toArray⟩, .int .i64 x.2], .string ⟨(SP.ifs b).toArray⟩] w fun e w' => e = .returned (.bool (SP.sep b x)) ∧ Below w.heap.size w w' := by
  by_cases h2 : x.2 = 2
  · obtain ⟨c, rfl⟩ := SP.ok_two hx h2
    have HC := Lib.hid (fun V => Tryz.strings_Contains_one ⟨(SP.ifs b).toArray⟩ c V)
    have HS := Lib.hid ((SP.sep_one b c).trans (SP.sep_ix b c).symm)
    clear hx h2
    dsimp only
    go_enter Tryz.func96, Tryz.ntmps96
    go_wp2_with fail
    refine (HC.out _).mono ?_
    rintro e Y ⟨rfl, rfl⟩
    go_wp2
    go_ret
    exact ⟨ret_bool HS.out.symm, balloc _ _⟩
  · have HS := Lib.hid (SP.sep_class (b := b) h2)
    have h2' := beq_f h2
    clear hx h2
    go_enter Tryz.func96, Tryz.ntmps96
    go_wp2
    go_ret
    exact ⟨ret_bool HS.out.symm, balloc _ _⟩
theorem white_any (b : Bool) (x : List UInt8 × Int) (w : World) (hx : SP.ok x) :
    Calls Tryz.prog 93 #[.agg #[.string ⟨x.1.toArray⟩, .int .i64 x.2], .string ⟨(SP.ifs b).toArray⟩] w fun e w' => e = .returned (.bool (SP.sep b x)) ∧ Below w.heap.size w w' := by
  have HC := Lib.hid (fun V => separates_any b x V hx)
  have HW := Lib.hid (@SP.sep_white b x)
  obtain ⟨t, k⟩ := x
  obtain ⟨X, hX⟩ : ∃ X, X = w.alloc (.cells #[.string ⟨t.toArray⟩, .int .i64 k] 170) := ⟨_, rfl⟩
  have HX := Lib.hid hX
  have HBX := Lib.hid (show Below w.heap.size w X by rw [hX]; exact balloc _ _)
  have hxp : X.heap[w.heap.size]? = some (.cells #[.string ⟨t.toArray⟩, .int .i64 k] 170 (0, 0)) := by rw [hX]; exact al_new w _
  have HXP := Lib.hid hxp
  have x0 := Lib.cell_of_heap hxp 0
  have x1 := Lib.cell_of_heap hxp 1
  have hlt : w.heap.size < X.heap.size := (Array.getElem?_eq_some_iff.1 hxp).1
  dsimp only at HC HW ⊢
  cases hs : SP.sep b (t, k) with
  | false =>
    rw [hs] at HC
    clear hs hX hxp hx
    go_enter Tryz.func93, Tryz.ntmps93
    go_upto_region 1 with (fail)
    rw [← HX.out]
    go_wp2_with fail
    refine (HC.out _).mono ?_
    rintro e Y ⟨rfl, hY⟩
    have HY := Lib.hid (HBX.out.trans (hY.mono HBX.out.size))
    clear hY
    go_wp2
    go_ret
    exact ⟨rfl, HY.out⟩
  | true =>
    rw [hs] at HC
    have ht := HW.out hs
    clear hs hX hxp hx
    rcases ht with rfl | rfl | rfl
    all_goals
      go_enter Tryz.func93, Tryz.ntmps93
      go_upto_region 1 with (fail)
      rw [← HX.out]
      go_wp2_with fail
      refine (HC.out _).mono ?_
      rintro e Y ⟨rfl, hY⟩
      have HY := Lib.hid (HBX.out.trans (hY.mono HBX.out.size))
      have y0 := Lib.cell_of_heap ((hY.block _ hlt).trans HXP.out) 0
      have hlt2 := Nat.lt_of_lt_of_le hlt hY.size
      clear hY
      go_wp2
      go_ret
      exact ⟨rfl, HY.out⟩
theorem R2.at_ {w : World} {v : Value} {l : List (List UInt8 × Int)} (h : R2 w v l) (hl : l ≠ []) : ∃ b off cap, v = .slice (some ⟨b, off, none⟩) l.length cap ∧ l.length ≤ cap ∧ b < w.heap.size ∧ RAt 2 e2 w b off l := by
  obtain ⟨A, cap, rfl, hc, h⟩ := h
  rcases h with h | ⟨b, off, rfl, hb, hr⟩
  · exact absurd h hl
  · exact ⟨b, off, cap, rfl, hc, hb, hr⟩
/-- What is left of a slice behind its first i elements, and no room behind them. -/
theorem R2.rest {w : World} {b off : Nat} {l : List (List UInt8 × Int)} (hr : RAt 2 e2 w b off l) (hb : b < w.heap.size) (i : Nat) (_hi : i < l.length) : R2 w (.slice (some ⟨b, off + i * 2, none⟩) (l.length - i) (l.length - i)) (l.drop i) :=
  ⟨_, _, by rw [List.length_drop], by rw [List.length_drop]; exact Nat.le_refl _, .inr ⟨b, _, rfl, hb, hr.drop i⟩⟩
theorem R2.none_ (w : World) (A : Option Addr) (cap : Nat) : R2 w (.slice A 0 cap) [] := ⟨A, cap, rfl, Nat.zero_le _, .inl rfl⟩
theorem R2.cell {w : World} {b off : Nat} {l : List (List UInt8 × Int)} (hr : RAt 2 e2 w b off l) {i : Nat} {x : List UInt8 × Int} (hx : l[i]? = some x) : w.cell? ⟨b, off + i * 2, none⟩ = some (.string ⟨x.1.toArray⟩) ∧ w.cell? ⟨b, off + i * 2 + 1, none⟩ = some (.int .i64 x.2) := ⟨hr i x hx 0 _ rfl, hr i x hx 1 _ rfl⟩
set_option maxHeartbeats 4000000 in
theorem skip_any (b : Bool) (l : List (List UInt8 × Int)) (v : Value) (w0 w : World) (h0 : Below w0.heap.size w0 w) (hv : R2 w0 v l) (hne : l ≠ []) (hl : l.length ≤ 1000000) (hok : ∀ x ∈ l, SP.ok x) :
    Calls Tryz.prog 94 #[v, .string ⟨(SP.ifs b).toArray⟩] w fun e w' => ∃ v', e = .returned v' ∧ R2 w0 v' (SP.skip b l) ∧ Below w.heap.size w w' := by
  obtain ⟨bb, off, cap, rfl, hcap, hbb0, hr⟩ := R2.at_ hv hne
  have hbb := Nat.lt_of_lt_of_le hbb0 h0.size
  obtain ⟨R, hR⟩ : ∃ R, SP.skip b l = R := ⟨_, rfl⟩
  rw [hR]
  have HR := Lib.hid (show SP.skip b (l.drop 0) = R from hR)
  have HA := Lib.hid (hr.below h0 hbb0)
  have HA0 := Lib.hid hr
  have HOK := Lib.hid hok
  have HW := Lib.hid (fun x V (h : SP.ok x) => white_any b x V h)
  clear hR hv hok hr h0
  go_enter Tryz.func94, Tryz.ntmps94
  go_wp2
  go_loopw [5] (fun i wr => ∃ k : Nat, k ≤ l.length ∧ i = .int .i64 k ∧ Hid (SP.skip b (l.drop k) = R) ∧ Hid (Below w.heap.size w wr)) (fun i _ => l.length - (intOf i).toNat)
  case atStart => exact ⟨0, Nat.zero_le _, rfl, HR, Lib.hid (Below.refl _ _)⟩
  case round =>
    obtain ⟨k, hk, rfl, HN, HB⟩ := hrel
    have hbr : bb < wr.heap.size := Nat.lt_of_lt_of_le hbb HB.out.size
    by_cases hlt : k < l.length
    · obtain ⟨x, hx⟩ : ∃ x, l[k]? = some x := ⟨_, List.getElem?_eq_getElem hlt⟩
      obtain ⟨g0, g1⟩ := R2.cell (HA.out.below HB.out hbb) hx
      have HWX := Lib.hid (HW.out x wr (HOK.out x (List.mem_of_getElem? hx)))
      have hd : l.drop k = x :: l.drop (k + 1) := by
        obtain ⟨_, rfl⟩ := List.getElem?_eq_some_iff.1 hx
        exact List.drop_eq_getElem_cons hlt
      have HD := Lib.hid hd
      have k1 : ((k : Int) < (l.length : Int)) = True := eq_true (by omega)
      clear hx hd
      cases hs : SP.sep b x with
      | true =>
        rw [hs] at HWX
        have HF := Lib.hid (show SP.skip b (l.drop (k + 1)) = R by rw [← HN.out, HD.out]; unfold SP.skip; rw [List.dropWhile_cons_of_pos hs])
        clear hs
        go_wp2_with fail
        refine HWX.out.mono ?_
        rintro e Y ⟨rfl, hY⟩
        have HY := Lib.hid (HB.out.trans (hY.mono HB.out.size))
        clear hY
        go_wp2
        go_roundw
        case rel => exact ⟨k + 1, hlt, by go_num, HF, HY⟩
        case measure => simp [intOf]; omega
      | false =>
        rw [hs] at HWX
        have HF := Lib.hid (show R = l.drop k by rw [← HN.out, HD.out]; unfold SP.skip; rw [List.dropWhile_cons_of_neg (by rw [hs]; decide)])
        have hkn : ¬ l.length = k := by omega
        clear hs
        go_wp2_with fail
        refine HWX.out.mono ?_
        rintro e Y ⟨rfl, hY⟩
        have HY := Lib.hid (HB.out.trans (hY.mono HB.out.size))
        clear hY
        go_wp2
        go_ret
        exact ⟨_, rfl, by rw [HF.out]; exact R2.rest HA0.out hbb0 k hlt, HY.out⟩
    · have hke : k = l.length := by omega
      subst hke
      have HF := Lib.hid (show R = [] by rw [← HN.out, List.drop_length]; rfl)
      go_wp2
      go_ret
      exact ⟨_, rfl, by rw [HF.out]; exact R2.none_ _ _ _, HB.out⟩
/-- No separator but white space: nothing delimits. -/
theorem delimits_any (b : Bool) (l : List (List UInt8 × Int)) (v : Value) (w : World) (hv : R2 w v l) (hl : l.length ≤ 1000000) (hok : ∀ x ∈ l, SP.ok x) :
    Calls Tryz.prog 95 #[v, .string ⟨(SP.ifs b).toArray⟩] w fun e w' => e = .returned (.bool false) ∧ Below w.heap.size w w' := by
  cases l with
  | nil =>
    obtain ⟨A, cap, rfl, -⟩ := hv.slice
    go_enter Tryz.func95, Tryz.ntmps95
    go_wp2
    go_ret
    exact ⟨rfl, Below.refl _ _⟩
  | cons x l =>
    obtain ⟨bb, off, cap, rfl, hcap, hbb, hr⟩ := R2.at_ hv (by simp)
    obtain ⟨g0, g1⟩ := R2.cell hr (i := 0) rfl
    have HA := Lib.hid hr
    have HS := Lib.hid (fun V => separates_any b x V (hok x (.head _)))
    have HW := Lib.hid (fun V => white_any b x V (hok x (.head _)))
    rw [Nat.zero_mul, Nat.add_zero] at g0 g1
    have hn : 0 < (x :: l).length := by simp
    generalize (x :: l).length = n at *
    clear hv hr hok
    cases hs : SP.sep b x with
    | false =>
      rw [hs] at HS
      clear hs
      go_enter Tryz.func95, Tryz.ntmps95
      go_wp2_with fail
      refine (HS.out _).mono ?_
      rintro e Y ⟨rfl, hY⟩
      have HY := Lib.hid hY
      clear hY
      go_wp2
      go_ret
      exact ⟨rfl, HY.out⟩
    | true =>
      rw [hs] at HS HW
      clear hs
      go_enter Tryz.func95, Tryz.ntmps95
      go_wp2_with fail
      refine (HS.out _).mono ?_
      rintro e Y ⟨rfl, hY⟩
      have HY := Lib.hid hY
      replace g0 := (hY.cell (p := ⟨bb, off, none⟩) hbb).trans g0
      replace g1 := (hY.cell (p := ⟨bb, off + 1, none⟩) hbb).trans g1
      have hby := Nat.lt_of_lt_of_le hbb hY.size
      clear hY
      go_wp2_with fail
      refine (HW.out _).mono ?_
      rintro e Z ⟨rfl, hZ⟩
      have HZ := Lib.hid (btr HY.out hZ)
      clear hZ
      go_wp2
      go_ret
      exact ⟨rfl, HZ.out⟩
end W
end Go.Proofs.YtkceenmlhfkkhaaGreatDoor
namespace Go.Proofs.YtkceenmlhfkkhaaGreatDoor
open Go.RowKit K
namespace W
set_option maxRecDepth 100000
/-- An element is put behind an own row, by way of a row of one, within a region that draws. -/
theorem app_row {T ST : TypeId} {i0 : TypeInfo} {z : Value} {m bytes : Nat} (ht : Tryz.prog.underlying ST = some (.slice T)) (hi : Tryz.prog.info? T = some i0) (hz0 : i0.zero = some z) (hz1 : i0.size = m) (hz2 : i0.bytes = bytes) (hzs : z.cells.size = m) (hsz : 0 < m) (hby : bytes ≤ 1000)
    (Y : World) (base n : Nat) (v : Value) (xs cells : List Value) (hlen : cells.length = m) (hone : ∀ u ∈ cells, u.oneCell' = true) (hown : Y.ownsRow base T m v n xs) (hn : n ≤ 2000000) (hb : base ≤ Y.heap.size) :
    ∃ A' c' w', (Builtin.append_ #[ST, ST] ST #[v, .slice (some ⟨Y.heap.size, 0, none⟩) 1 1]).run Tryz.prog (Y.alloc (.cells cells.toArray T)).drew = .ok (.slice A' (n + 1) c') w' ∧
      w'.ownsRow base T m (.slice A' (n + 1) c') (n + 1) (xs ++ cells) ∧ (Y.alloc (.cells cells.toArray T)).drew.grownBy w' v.ownBlock ∧ ((Value.slice A' (n + 1) c').ownBlock = v.ownBlock ∨ (Value.slice A' (n + 1) c').ownBlock = some (Y.heap.size + 1)) := by
  obtain ⟨v', w', r1, r2, r3, -, r4⟩ := run_append_own_at (P := Tryz.prog) (Y.alloc (.cells cells.toArray T)).drew base ST ST T i0 z m bytes ht hi hz0 hz1 hz2 hzs hsz v n xs ((hown.alloc _).drew) ⟨Y.heap.size, 0, none⟩ 1 1 cells (by rw [hlen, Nat.one_mul])
    (fun j u hj => by
      show (Y.alloc (.cells cells.toArray T)).cell? _ = _
      rw [show (⟨Y.heap.size, 0, none⟩ : Addr).add j = ⟨Y.heap.size, j, none⟩ by unfold Addr.add; split <;> simp_all]
      have h := Lib.cell_of_heap (al_new Y (.cells cells.toArray T)) j
      rw [h]
      simpa using hj)
    hone (by unfold maxLen; omega) (by
      have : (n + 1) * bytes ≤ 2000001 * 1000 := Nat.mul_le_mul (by omega) hby
      omega) (by simp; omega)
  obtain ⟨A', c', rfl⟩ := row_val r2
  refine ⟨A', c', w', r1, r2, r3, ?_⟩
  rcases r4 with h | h
  · exact .inl h
  · exact .inr (by rw [h]; simp)
theorem infoEl : (Tryz.prog.info? 170).map (fun i => (i.zero, i.size, i.bytes)) = some (some (.agg #[.string ⟨#[]⟩, .int .i64 0]), 2, 24) := by kernel_rfl
theorem cells2 (w : World) (a b : Value) (T : TypeId) : ∀ (j : Nat) (u : Value), [a, b][j]? = some u → (w.alloc (.cells #[a, b] T)).cell? ((⟨w.heap.size, 0, none⟩ : Addr).add j) = some u := by
  intro j u hj
  match j, hj with
  | 0, hj => simp at hj; subst hj; simp [Addr.add]
  | 1, hj => simp at hj; subst hj; simp [Addr.add]
  | n + 2, hj => simp at hj
theorem own_ge {w : World} {B m : Nat} {T : TypeId} {v : Value} {n : Nat} {xs : List Value} (h : w.ownsRow B T m v n xs) : ∀ r, v.ownBlock = some r → B ≤ r := by
  intro r hr
  rcases h.2 with ⟨h1, _⟩ | ⟨g, cap, cur, h1, h2, _⟩
  · rw [h1] at hr; cases hr
  · rw [h1] at hr; simp [Value.ownBlock] at hr; omega
theorem own_apart {w : World} {B m : Nat} {T T' : TypeId} {v : Value} {n : Nat} {xs : List Value} {q : Nat} {cs : Array Value} {f : Nat × Nat} (h : w.ownsRow B T m v n xs) (hq : w.heap[q]? = some (.cells cs T' f)) (hne : T ≠ T') : ∀ r, v.ownBlock = some r → ¬ r = q := by
  intro r hr e
  subst e
  rcases h.2 with ⟨h1, _⟩ | ⟨g, cap, cur, h1, h2, h3, _⟩
  · rw [h1] at hr; cases hr
  · rw [h1] at hr
    simp [Value.ownBlock] at hr
    subst hr
    rw [hq] at h3
    injection h3 with h3
    injection h3 with _ h3 _
    exact hne h3.symm
theorem e2_one (x : List UInt8 × Int) : ∀ u ∈ e2 x, u.oneCell' = true := by
  intro u hu
  simp [e2] at hu
  rcases hu with rfl | rfl <;> rfl
/-- Own rows of elements grow by one. -/
theorem OR.snoc {T : TypeId} {base : Nat} {w : World} {v : Value} {l : List (List UInt8 × Int)} {x : List UInt8 × Int} (h : w.ownsRow base T 2 v (l.length + 1) (l.flatMap e2 ++ e2 x)) : OR 2 e2 T base w v (l ++ [x]) := by
  unfold OR
  rw [List.length_append, List.flatMap_append]
  exact h
end W
namespace SP
theorem els_drop {l : List Run} {k : Nat} {r : Run} (h : l[k]? = some r) : els (l.drop k) = elsOf r ++ els (l.drop (k + 1)) := by
  obtain ⟨hk, rfl⟩ := List.getElem?_eq_some_iff.1 h
  rw [List.drop_eq_getElem_cons hk]
  rfl
theorem map_drop {s : Str} {j : Nat} (c : Int) (h : j < s.length) : ((s.drop j).map fun b => (([b], c) : El)) = (cut s j (j + 1), c) :: (s.drop (j + 1)).map fun b => ([b], c) := by
  obtain ⟨x, hx, hb, -⟩ := drop_cons s j h
  rw [hx, List.map_cons, cut_one s j h, by8_bt hb]
end SP
namespace W
set_option maxHeartbeats 8000000 in
theorem elements_any (l : List (List UInt8 × Int)) (v : Value) (w : World) (hv : R2 w v l) (hl : l.length ≤ 1000000) (hz : (SP.els l).length ≤ 1000000) (hc : ∀ r ∈ l, 0 ≤ r.2 ∧ r.2 ≤ 3) (ht : ∀ r ∈ l, r.1.length ≤ 1000000) :
    Calls Tryz.prog 55 #[v] w fun e w' => ∃ v', e = .returned v' ∧ R2 w' v' (SP.els l) ∧ Below w.heap.size w w' := by
  obtain ⟨i0, hi, hz0, hz1, hz2⟩ := info_parts infoEl
  obtain ⟨A, cap, rfl, -⟩ := hv.slice
  obtain ⟨R, hR⟩ : ∃ R, SP.els l = R := ⟨_, rfl⟩
  rw [hR] at hz ⊢
  have HR := Lib.hid (show ([] : List SP.El) ++ SP.els (l.drop 0) = R from hR)
  have HZ := Lib.hid hz
  have HVV := Lib.hid hv
  have HC := Lib.hid hc
  have HT := Lib.hid ht
  clear hR hv hz hc ht
  go_enter Tryz.func55, Tryz.ntmps55
  go_wp2
  go_loopw [3, 9] (fun o i wr => ∃ (k : Nat) (acc : List (List UInt8 × Int)), k ≤ l.length ∧ i = .int .i64 k ∧ Hid (acc ++ SP.els (l.drop k) = R) ∧ Hid (OR 2 e2 170 w.heap.size wr o acc) ∧ Hid (Below w.heap.size w wr)) (fun _ i _ => l.length - (intOf i).toNat)
  case atStart => exact ⟨0, [], Nat.zero_le _, rfl, HR, Lib.hid (OR.nil _ _ _), Lib.hid (Below.refl _ _)⟩
  case round =>
    obtain ⟨k, acc, hk, rfl, HN, HO, HB⟩ := hrel
    obtain ⟨A1, c1, rfl⟩ := HO.out.val
    have HAL := Lib.hid (show acc.length ≤ 1000000 by have h1 := HZ.out; rw [← HN.out, List.length_append] at h1; omega)
    by_cases hlt : k < l.length
    · obtain ⟨⟨t, c⟩, hx⟩ : ∃ x, l[k]? = some x := ⟨_, List.getElem?_eq_getElem hlt⟩
      obtain ⟨bb, off, rfl, hbl, g0, g1⟩ := R2.get (HVV.out.below HB.out) hx
      have hcl := HC.out _ (List.mem_of_getElem? hx)
      have htl := HT.out _ (List.mem_of_getElem? hx)
      have HD := Lib.hid (SP.els_drop hx)
      clear hx
      dsimp only at g0 g1 hcl htl
      obtain ⟨X, hX⟩ : ∃ X, X = wr.alloc (.cells #[.string ⟨t.toArray⟩, .int .i64 c] 121) := ⟨_, rfl⟩
      obtain ⟨q0, hq0⟩ : ∃ q0, wr.heap.size = q0 := ⟨_, rfl⟩
      have HX := Lib.hid hX
      have HBX := Lib.hid (show Below wr.heap.size wr X by rw [hX]; exact balloc _ _)
      have hxp : X.heap[q0]? = some (.cells #[.string ⟨t.toArray⟩, .int .i64 c] 121 (0, 0)) := by rw [hX]; exact al_new' wr _ _ hq0.symm
      have HXP := Lib.hid hxp
      have x0 := Lib.cell_of_heap hxp 0
      have x1 := Lib.cell_of_heap hxp 1
      have hxl : q0 < X.heap.size := (Array.getElem?_eq_some_iff.1 hxp).1
      have HOX := Lib.hid (HO.out.below HBX.out)
      have HBW := Lib.hid (HB.out.trans (HBX.out.mono HB.out.size))
      clear hX hxp
      by_cases h3 : c = 3
      case pos =>
        subst h3
        have HF := Lib.hid (show (acc ++ [([], 3)]) ++ SP.els (l.drop (k + 1)) = R by rw [← HN.out, HD.out, List.append_assoc]; rfl)
        clear hcl htl
        go_upto_region 7 with (fail)
        rw [← HX.out]
        go_wp2_with (at_builtin; refine wpList_append_own_at _ rfl _ _ 117 rfl w.heap.size 170 i0 _ 2 24 Tryz.underlying117 hi hz0 hz1 hz2 rfl (by decide) _ acc.length _ rfl (row_below HOX.out (balloc _ _)) ⟨X.heap.size, 0, none⟩ 1 1 [.string ⟨#[]⟩, .int .i64 3] rfl rfl (cells2 _ _ _ _) (e2_one ([], 3)) (by have := HAL.out; unfold maxLen; omega) (by have := HAL.out; omega) (by have := HBW.out.size; simp; omega) ?_)
        intro v1 W1 ho1 hg1 _ _
        have HB1 := Lib.hid ((btr HBW.out (balloc X (.cells #[.string ⟨#[]⟩, .int .i64 3] 170))).grown hg1 (by have := HBW.out.size; simp; omega) (fun q hq => own_ge HOX.out q hq))
        have HO1 := Lib.hid (OR.snoc (l := acc) (x := ([], 3)) ho1)
        clear ho1 hg1
        go_wp2
        go_roundw
        case rel => exact ⟨k + 1, acc ++ [([], 3)], hlt, by go_num, HF, HO1, HB1⟩
        case measure => simp [intOf]; omega
      case neg =>
      have e3 := beq_f h3
      have hc3 : c = 0 ∨ c = 1 ∨ c = 2 := by omega
      have HEL := Lib.hid (show SP.elsOf (t, c) = (if t = [] ∧ c = 1 then [([], 1)] else []) ++ t.map (fun b => ([b], c)) from by unfold SP.elsOf; rw [if_neg h3])
      clear hcl h3
      have HTL := Lib.hid htl
      clear htl
      rcases hc3 with rfl | rfl | rfl
      case inl =>
        have HFE := Lib.hid (show acc ++ (SP.elsOf (t, 0) ++ SP.els (l.drop (k + 1))) = R by rw [← HN.out, HD.out])
        rw [HEL.out] at HFE
        go_upto_region 11 with (fail)
        rw [← HX.out]
        by_cases hte : t = []
        case pos =>
          subst hte
          have HF := Lib.hid (show acc ++ SP.els (l.drop (k + 1)) = R by have h := HFE.out; rw [if_neg (fun e => by omega)] at h; exact h)
          go_wp2
          go_loopw [3, 40] (fun o i wr => o = .slice A1 acc.length c1 ∧ i = .int .i64 0 ∧ wr = X) (fun _ _ _ => 0)
          case atStart => exact ⟨rfl, rfl, rfl⟩
          case round =>
            obtain ⟨rfl, rfl, rfl⟩ := hrel
            go_wp2
            go_roundw
            case rel => exact ⟨k + 1, acc, hlt, by go_num, HF, HOX, HBW⟩
            case measure => simp [intOf]; omega
        case neg =>
          have hte1 : t.isEmpty = false := by cases t; exact absurd rfl hte; rfl
          have hte2 : (t == []) = false := by rw [beq_eq_false_iff_ne]; exact hte
          have HF := Lib.hid (show acc ++ ((t.drop 0).map (fun b => ([b], 0)) ++ SP.els (l.drop (k + 1))) = R by have h := HFE.out; rw [if_neg (fun e => hte e.1)] at h; exact h)
          go_wp2
          go_loopw [3, 40] (fun o i wr => ∃ (j : Nat) (acc3 : List (List UInt8 × Int)), j ≤ t.length ∧ i = .int .i64 j ∧ Hid (acc3 ++ (((t.drop j).map fun b => ([b], 0)) ++ SP.els (l.drop (k + 1))) = R) ∧ Hid (OR 2 e2 170 w.heap.size wr o acc3) ∧ Hid (Below w.heap.size w wr) ∧ Hid (wr.heap[q0]? = some (.cells #[.string ⟨t.toArray⟩, .int .i64 0] 121 (0, 0)))) (fun _ i _ => t.length - (intOf i).toNat)
          case atStart => exact ⟨0, acc, Nat.zero_le _, rfl, HF, HOX, HBW, HXP⟩
          case round =>
            obtain ⟨j, acc3, hj, rfl, HN3, HO3, HB3, HXQ⟩ := hrel
            obtain ⟨A3, c3, rfl⟩ := HO3.out.val
            have HAL3 := Lib.hid (show acc3.length ≤ 1000000 by have h1 := HZ.out; rw [← HN3.out, List.length_append] at h1; omega)
            have x0 := Lib.cell_of_heap HXQ.out 0
            have x1 := Lib.cell_of_heap HXQ.out 1
            have hxw := (Array.getElem?_eq_some_iff.1 HXQ.out).1
            by_cases hjl : j < t.length
            · have HF3 := Lib.hid (show (acc3 ++ [(cut t j (j + 1), 0)]) ++ (((t.drop (j + 1)).map fun b => ([b], 0)) ++ SP.els (l.drop (k + 1))) = R by rw [← HN3.out, SP.map_drop 0 hjl]; simp)
              obtain ⟨A4, c4, W4, hrun, ho4, hg4, -⟩ := app_row (T := 170) (ST := 117) Tryz.underlying117 hi hz0 hz1 hz2 rfl (by decide) (by decide) wr w.heap.size acc3.length (.slice A3 acc3.length c3) _ [.string ⟨(cut t j (j + 1)).toArray⟩, .int .i64 0] rfl (e2_one (_, 0)) HO3.out (by have := HAL3.out; omega) HB3.out.size
              have HRUN := Lib.hid hrun
              have HB4 := Lib.hid (((HB3.out.trans ((balloc wr (.cells [.string ⟨(cut t j (j + 1)).toArray⟩, .int .i64 0].toArray 170)).mono HB3.out.size)).drew).grown hg4 (by have := HB3.out.size; simp; omega) (fun q hq => own_ge HO3.out q hq))
              have HXQ4 := Lib.hid (show W4.heap[q0]? = some (.cells #[.string ⟨t.toArray⟩, .int .i64 0] 121 (0, 0)) from (hg4.block q0 (by simp; omega) (fun e => own_apart HO3.out HXQ.out (by decide) q0 e.symm rfl)).trans ((Below.heap_alloc _ _ _ hxw).trans HXQ.out))
              have HO4 := Lib.hid (OR.snoc (l := acc3) (x := (cut t j (j + 1), 0)) ho4)
              clear hrun ho4 hg4
              have j1 : ((j : Int) + 1 ≤ (t.length : Int)) = True := eq_true (by omega)
              have j2 : ((j : Int) ≤ (t.length : Int)) = True := eq_true (by omega)
              have j3 : IntKind.i64.wrap ((j : Int) + 1) = (j : Int) + 1 := by rw [IntKind.wrap_i64]; have := HTL.out; omega
              have j4 : 0 ≤ (j : Int) + 1 := by omega
              have j5 : ((j : Int) + 1).toNat = j + 1 := by omega
              have j6 : ((j : Int) ≤ (j : Int) + 1) = True := eq_true (by omega)
              go_wp2_with fail
              go_region_law (refine step_append_eq8 rfl _ _ 117 rfl 117 rfl _ _ rfl rfl HRUN.out ?_)
              all_goals
                go_wp2
                go_roundw
                case rel => exact ⟨j + 1, acc3 ++ [(cut t j (j + 1), 0)], hjl, by go_num, HF3, HO4, HB4, HXQ4⟩
                case measure => simp [intOf]; omega
            · have HF3 := Lib.hid (show acc3 ++ SP.els (l.drop (k + 1)) = R by rw [← HN3.out, show t.drop j = [] from List.drop_eq_nil_of_le (by omega)]; rfl)
              go_wp2
              go_roundw
              case rel => exact ⟨k + 1, acc3, hlt, by go_num, HF3, HO3, HB3⟩
              case measure => simp [intOf]; omega
      case inr.inl =>
        have HFE := Lib.hid (show acc ++ (SP.elsOf (t, 1) ++ SP.els (l.drop (k + 1))) = R by rw [← HN.out, HD.out])
        rw [HEL.out] at HFE
        go_upto_region 11 with (fail)
        rw [← HX.out]
        by_cases hte : t = []
        case pos =>
          subst hte
          have HF := Lib.hid (show (acc ++ [([], 1)]) ++ SP.els (l.drop (k + 1)) = R by have h := HFE.out; rw [if_pos ⟨rfl, rfl⟩] at h; rw [← h]; simp)
          go_wp2_with (at_builtin; refine wpList_append_own_at _ rfl _ _ 117 rfl w.heap.size 170 i0 _ 2 24 Tryz.underlying117 hi hz0 hz1 hz2 rfl (by decide) _ acc.length _ rfl (row_below HOX.out (balloc _ _)) ⟨X.heap.size, 0, none⟩ 1 1 [.string ⟨#[]⟩, .int .i64 1] rfl rfl (cells2 _ _ _ _) (e2_one ([], 1)) (by have := HAL.out; unfold maxLen; omega) (by have := HAL.out; omega) (by have := HBW.out.size; simp; omega) ?_)
          intro v1 W1 ho1 hg1 _ _
          have HBX1 := Lib.hid ((balloc X (.cells #[.string ⟨#[]⟩, .int .i64 1] 170)).size)
          have HB1 := Lib.hid ((btr HBW.out (balloc X (.cells #[.string ⟨#[]⟩, .int .i64 1] 170))).grown hg1 (by have := HBW.out.size; simp; omega) (fun q hq => own_ge HOX.out q hq))
          have HO1 := Lib.hid (OR.snoc (l := acc) (x := ([], 1)) ho1)
          have hx1 : W1.heap[q0]? = some (.cells #[.string ⟨#[]⟩, .int .i64 1] 121 (0, 0)) := by
            rw [hg1.block _ (by simp; omega) (fun e => own_apart HOX.out HXP.out (by decide) _ e.symm rfl)]
            exact (Below.heap_alloc _ _ _ hxl).trans HXP.out
          have x0 := Lib.cell_of_heap hx1 0
          have x1 := Lib.cell_of_heap hx1 1
          have hxw : q0 < W1.heap.size := (Array.getElem?_eq_some_iff.1 hx1).1
          clear ho1 hg1 hx1
          go_wp2
          go_loopw [3, 40] (fun o i wr => o = v1 ∧ i = .int .i64 0 ∧ wr = W1) (fun _ _ _ => 0)
          case atStart => exact ⟨rfl, rfl, rfl⟩
          case round =>
            obtain ⟨rfl, rfl, rfl⟩ := hrel
            go_wp2
            go_roundw
            case rel => exact ⟨k + 1, acc ++ [([], 1)], hlt, by go_num, HF, HO1, HB1⟩
            case measure => simp [intOf]; omega
        case neg =>
          have hte1 : t.isEmpty = false := by cases t; exact absurd rfl hte; rfl
          have hte2 : (t == []) = false := by rw [beq_eq_false_iff_ne]; exact hte
          have HF := Lib.hid (show acc ++ ((t.drop 0).map (fun b => ([b], 1)) ++ SP.els (l.drop (k + 1))) = R by have h := HFE.out; rw [if_neg (fun e => hte e.1)] at h; exact h)
          go_wp2
          go_loopw [3, 40] (fun o i wr => ∃ (j : Nat) (acc3 : List (List UInt8 × Int)), j ≤ t.length ∧ i = .int .i64 j ∧ Hid (acc3 ++ (((t.drop j).map fun b => ([b], 1)) ++ SP.els (l.drop (k + 1))) = R) ∧ Hid (OR 2 e2 170 w.heap.size wr o acc3) ∧ Hid (Below w.heap.size w wr) ∧ Hid (wr.heap[q0]? = some (.cells #[.string ⟨t.toArray⟩, .int .i64 1] 121 (0, 0)))) (fun _ i _ => t.length - (intOf i).toNat)
          case atStart => exact ⟨0, acc, Nat.zero_le _, rfl, HF, HOX, HBW, HXP⟩
          case round =>
            obtain ⟨j, acc3, hj, rfl, HN3, HO3, HB3, HXQ⟩ := hrel
            obtain ⟨A3, c3, rfl⟩ := HO3.out.val
            have HAL3 := Lib.hid (show acc3.length ≤ 1000000 by have h1 := HZ.out; rw [← HN3.out, List.length_append] at h1; omega)
            have x0 := Lib.cell_of_heap HXQ.out 0
            have x1 := Lib.cell_of_heap HXQ.out 1
            have hxw := (Array.getElem?_eq_some_iff.1 HXQ.out).1
            by_cases hjl : j < t.length
            · have HF3 := Lib.hid (show (acc3 ++ [(cut t j (j + 1), 1)]) ++ (((t.drop (j + 1)).map fun b => ([b], 1)) ++ SP.els (l.drop (k + 1))) = R by rw [← HN3.out, SP.map_drop 1 hjl]; simp)
              obtain ⟨A4, c4, W4, hrun, ho4, hg4, -⟩ := app_row (T := 170) (ST := 117) Tryz.underlying117 hi hz0 hz1 hz2 rfl (by decide) (by decide) wr w.heap.size acc3.length (.slice A3 acc3.length c3) _ [.string ⟨(cut t j (j + 1)).toArray⟩, .int .i64 1] rfl (e2_one (_, 1)) HO3.out (by have := HAL3.out; omega) HB3.out.size
              have HRUN := Lib.hid hrun
              have HB4 := Lib.hid (((HB3.out.trans ((balloc wr (.cells [.string ⟨(cut t j (j + 1)).toArray⟩, .int .i64 1].toArray 170)).mono HB3.out.size)).drew).grown hg4 (by have := HB3.out.size; simp; omega) (fun q hq => own_ge HO3.out q hq))
              have HXQ4 := Lib.hid (show W4.heap[q0]? = some (.cells #[.string ⟨t.toArray⟩, .int .i64 1] 121 (0, 0)) from (hg4.block q0 (by simp; omega) (fun e => own_apart HO3.out HXQ.out (by decide) q0 e.symm rfl)).trans ((Below.heap_alloc _ _ _ hxw).trans HXQ.out))
              have HO4 := Lib.hid (OR.snoc (l := acc3) (x := (cut t j (j + 1), 1)) ho4)
              clear hrun ho4 hg4
              have j1 : ((j : Int) + 1 ≤ (t.length : Int)) = True := eq_true (by omega)
              have j2 : ((j : Int) ≤ (t.length : Int)) = True := eq_true (by omega)
              have j3 : IntKind.i64.wrap ((j : Int) + 1) = (j : Int) + 1 := by rw [IntKind.wrap_i64]; have := HTL.out; omega
              have j4 : 0 ≤ (j : Int) + 1 := by omega
              have j5 : ((j : Int) + 1).toNat = j + 1 := by omega
              have j6 : ((j : Int) ≤ (j : Int) + 1) = True := eq_true (by omega)
              go_wp2_with fail
              go_region_law (refine step_append_eq8 rfl _ _ 117 rfl 117 rfl _ _ rfl rfl HRUN.out ?_)
              all_goals
                go_wp2
                go_roundw
                case rel => exact ⟨j + 1, acc3 ++ [(cut t j (j + 1), 1)], hjl, by go_num, HF3, HO4, HB4, HXQ4⟩
                case measure => simp [intOf]; omega
            · have HF3 := Lib.hid (show acc3 ++ SP.els (l.drop (k + 1)) = R by rw [← HN3.out, show t.drop j = [] from List.drop_eq_nil_of_le (by omega)]; rfl)
              go_wp2
              go_roundw
              case rel => exact ⟨k + 1, acc3, hlt, by go_num, HF3, HO3, HB3⟩
              case measure => simp [intOf]; omega
      case inr.inr =>
        have HFE := Lib.hid (show acc ++ (SP.elsOf (t, 2) ++ SP.els (l.drop (k + 1))) = R by rw [← HN.out, HD.out])
        rw [HEL.out] at HFE
        go_upto_region 11 with (fail)
        rw [← HX.out]
        by_cases hte : t = []
        case pos =>
          subst hte
          have HF := Lib.hid (show acc ++ SP.els (l.drop (k + 1)) = R by have h := HFE.out; rw [if_neg (fun e => by omega)] at h; exact h)
          go_wp2
          go_loopw [3, 40] (fun o i wr => o = .slice A1 acc.length c1 ∧ i = .int .i64 0 ∧ wr = X) (fun _ _ _ => 0)
          case atStart => exact ⟨rfl, rfl, rfl⟩
          case round =>
            obtain ⟨rfl, rfl, rfl⟩ := hrel
            go_wp2
            go_roundw
            case rel => exact ⟨k + 1, acc, hlt, by go_num, HF, HOX, HBW⟩
            case measure => simp [intOf]; omega
        case neg =>
          have hte1 : t.isEmpty = false := by cases t; exact absurd rfl hte; rfl
          have hte2 : (t == []) = false := by rw [beq_eq_false_iff_ne]; exact hte
          have HF := Lib.hid (show acc ++ ((t.drop 0).map (fun b => ([b], 2)) ++ SP.els (l.drop (k + 1))) = R by have h := HFE.out; rw [if_neg (fun e => hte e.1)] at h; exact h)
          go_wp2
          go_loopw [3, 40] (fun o i wr => ∃ (j : Nat) (acc3 : List (List UInt8 × Int)), j ≤ t.length ∧ i = .int .i64 j ∧ Hid (acc3 ++ (((t.drop j).map fun b => ([b], 2)) ++ SP.els (l.drop (k + 1))) = R) ∧ Hid (OR 2 e2 170 w.heap.size wr o acc3) ∧ Hid (Below w.heap.size w wr) ∧ Hid (wr.heap[q0]? = some (.cells #[.string ⟨t.toArray⟩, .int .i64 2] 121 (0, 0)))) (fun _ i _ => t.length - (intOf i).toNat)
          case atStart => exact ⟨0, acc, Nat.zero_le _, rfl, HF, HOX, HBW, HXP⟩
          case round =>
            obtain ⟨j, acc3, hj, rfl, HN3, HO3, HB3, HXQ⟩ := hrel
            obtain ⟨A3, c3, rfl⟩ := HO3.out.val
            have HAL3 := Lib.hid (show acc3.length ≤ 1000000 by have h1 := HZ.out; rw [← HN3.out, List.length_append] at h1; omega)
            have x0 := Lib.cell_of_heap HXQ.out 0
            have x1 := Lib.cell_of_heap HXQ.out 1
            have hxw := (Array.getElem?_eq_some_iff.1 HXQ.out).1
            by_cases hjl : j < t.length
            · have HF3 := Lib.hid (show (acc3 ++ [(cut t j (j + 1), 2)]) ++ (((t.drop (j + 1)).map fun b => ([b], 2)) ++ SP.els (l.drop (k + 1))) = R by rw [← HN3.out, SP.map_drop 2 hjl]; simp)
              obtain ⟨A4, c4, W4, hrun, ho4, hg4, -⟩ := app_row (T := 170) (ST := 117) Tryz.underlying117 hi hz0 hz1 hz2 rfl (by decide) (by decide) wr w.heap.size acc3.length (.slice A3 acc3.length c3) _ [.string ⟨(cut t j (j + 1)).toArray⟩, .int .i64 2] rfl (e2_one (_, 2)) HO3.out (by have := HAL3.out; omega) HB3.out.size
              have HRUN := Lib.hid hrun
              have HB4 := Lib.hid (((HB3.out.trans ((balloc wr (.cells [.string ⟨(cut t j (j + 1)).toArray⟩, .int .i64 2].toArray 170)).mono HB3.out.size)).drew).grown hg4 (by have := HB3.out.size; simp; omega) (fun q hq => own_ge HO3.out q hq))
              have HXQ4 := Lib.hid (show W4.heap[q0]? = some (.cells #[.string ⟨t.toArray⟩, .int .i64 2] 121 (0, 0)) from (hg4.block q0 (by simp; omega) (fun e => own_apart HO3.out HXQ.out (by decide) q0 e.symm rfl)).trans ((Below.heap_alloc _ _ _ hxw).trans HXQ.out))
              have HO4 := Lib.hid (OR.snoc (l := acc3) (x := (cut t j (j + 1), 2)) ho4)
              clear hrun ho4 hg4
              have j1 : ((j : Int) + 1 ≤ (t.length : Int)) = True := eq_true (by omega)
              have j2 : ((j : Int) ≤ (t.length : Int)) = True := eq_true (by omega)
              have j3 : IntKind.i64.wrap ((j : Int) + 1) = (j : Int) + 1 := by rw [IntKind.wrap_i64]; have := HTL.out; omega
              have j4 : 0 ≤ (j : Int) + 1 := by omega
              have j5 : ((j : Int) + 1).toNat = j + 1 := by omega
              have j6 : ((j : Int) ≤ (j : Int) + 1) = True := eq_true (by omega)
              go_wp2_with fail
              go_region_law (refine step_append_eq8 rfl _ _ 117 rfl 117 rfl _ _ rfl rfl HRUN.out ?_)
              all_goals
                go_wp2
                go_roundw
                case rel => exact ⟨j + 1, acc3 ++ [(cut t j (j + 1), 2)], hjl, by go_num, HF3, HO4, HB4, HXQ4⟩
                case measure => simp [intOf]; omega
            · have HF3 := Lib.hid (show acc3 ++ SP.els (l.drop (k + 1)) = R by rw [← HN3.out, show t.drop j = [] from List.drop_eq_nil_of_le (by omega)]; rfl)
              go_wp2
              go_roundw
              case rel => exact ⟨k + 1, acc3, hlt, by go_num, HF3, HO3, HB3⟩
              case measure => simp [intOf]; omega
    · have HF := Lib.hid (show R = acc by rw [← HN.out, List.drop_eq_nil_of_le (by omega)]; exact (List.append_nil acc))
      go_wp2
      go_ret
      refine ⟨_, rfl, ?_, HB.out⟩
      rw [HF.out]
      exact HO.out.rv e2_len
end W
end Go.Proofs.YtkceenmlhfkkhaaGreatDoor
namespace Go.Proofs.YtkceenmlhfkkhaaGreatDoor
open Go.RowKit K
namespace W
set_option maxRecDepth 100000
/-- The boxes of divide: fields at B, the field that is being read at B + 1. -/
structure DSx (W : World) (B : Nat) (fs : List (List SP.El)) (now : List SP.El) (vf vn : Value) (fsv : List Value) : Prop where
  bf : W.heap[B]? = some (.cells #[vf] 115 (0, 0))
  bn : W.heap[B + 1]? = some (.cells #[vn] 117 (0, 0))
  rf : W.ownsRow (B + 2) 117 1 vf fs.length fsv
  rn : OR 2 e2 170 (B + 2) W vn now
  el : ∀ (i : Nat) (x : Value) (f : List SP.El), fsv[i]? = some x → fs[i]? = some f → OR 2 e2 170 (B + 2) W x f ∧ ∀ r, x.ownBlock = some r → vn.ownBlock ≠ some r
def DS (W : World) (B : Nat) (fs : List (List SP.El)) (now : List SP.El) : Prop := ∃ vf vn fsv, DSx W B fs now vf vn fsv
theorem DSx.lt {W : World} {B : Nat} {fs : List (List SP.El)} {now : List SP.El} {vf vn : Value} {fsv : List Value} (h : DSx W B fs now vf vn fsv) : B + 1 < W.heap.size := (Array.getElem?_eq_some_iff.1 h.bn).1
theorem DSx.below {W W' : World} {B : Nat} {fs : List (List SP.El)} {now : List SP.El} {vf vn : Value} {fsv : List Value} (h : DSx W B fs now vf vn fsv) (hb : Below W.heap.size W W') : DSx W' B fs now vf vn fsv :=
  ⟨(hb.block _ (by have := h.lt; omega)).trans h.bf, (hb.block _ h.lt).trans h.bn, row_below h.rf hb, row_below h.rn hb, fun i x f hx hf => ⟨row_below (h.el i x f hx hf).1 hb, (h.el i x f hx hf).2⟩⟩
theorem DS.below {W W' : World} {B : Nat} {fs : List (List SP.El)} {now : List SP.El} (h : DS W B fs now) (hb : Below W.heap.size W W') : DS W' B fs now := by
  obtain ⟨vf, vn, fsv, h⟩ := h
  exact ⟨vf, vn, fsv, h.below hb⟩
theorem infoEls : (Tryz.prog.info? 117).map (fun i => (i.zero, i.size, i.bytes)) = some (some (.slice none 0 0), 1, 24) := by kernel_rfl
/-- The field that was read is put behind the others. -/
theorem DSx.push {W V W1 : World} {B : Nat} {fs : List (List SP.El)} {now : List SP.El} {vf vn v' : Value} {fsv : List Value} (h : DSx W B fs now vf vn fsv) (hV : Below W.heap.size W V) (hg : V.grownBy W1 vf.ownBlock) (hown : W1.ownsRow (B + 2) 117 1 v' (fs.length + 1) (fsv ++ [vn])) :
    DSx ((W1.setCell ⟨B, 0, none⟩ v').setCell ⟨B + 1, 0, none⟩ (.slice none 0 0)) B (fs ++ [now]) [] v' (.slice none 0 0) (fsv ++ [vn]) ∧ Below B W ((W1.setCell ⟨B, 0, none⟩ v').setCell ⟨B + 1, 0, none⟩ (.slice none 0 0)) := by
  have h2 := h.below hV
  have hge := own_ge h.rf
  have k1 : W1.heap[B]? = some (.cells #[vf] 115 (0, 0)) := (hg.block _ (by have := h2.lt; omega) (fun e => by have := hge _ e.symm; omega)).trans h2.bf
  have k2 : W1.heap[B + 1]? = some (.cells #[vn] 117 (0, 0)) := (hg.block _ h2.lt (fun e => by have := hge _ e.symm; omega)).trans h2.bn
  have s1 := heap_setCell_same W1 B 0 _ _ v' k1
  have s2 := heap_setCell_same (W1.setCell ⟨B, 0, none⟩ v') (B + 1) 0 _ _ (.slice none 0 0) ((Below.heap_setCell _ _ _ _ (by dsimp only; omega)).trans k2)
  have hrow : ∀ {T : TypeId} {m : Nat} {x : Value} {n : Nat} {xs : List Value}, W1.ownsRow (B + 2) T m x n xs → ((W1.setCell ⟨B, 0, none⟩ v').setCell ⟨B + 1, 0, none⟩ (.slice none 0 0)).ownsRow (B + 2) T m x n xs := fun h => row_set (row_set h (by dsimp only; omega) _) (by dsimp only; omega) _
  refine ⟨⟨?_, ?_, ?_, OR.nil _ _ _, ?_⟩, ?_⟩
  · exact (Below.heap_setCell _ _ _ _ (by dsimp only; omega)).trans (by rw [s1]; rfl)
  · rw [s2]; rfl
  · rw [List.length_append]; exact hrow hown
  · intro i x f hx hf
    refine ⟨hrow ?_, fun r _ e => by cases e⟩
    have hlen : fsv.length = fs.length := by have := h.rf.1; omega
    rcases Nat.lt_or_ge i fs.length with hi | hi
    · rw [List.getElem?_append_left (by omega)] at hx
      rw [List.getElem?_append_left hi] at hf
      have := h2.el i x f hx hf
      exact row_grown this.1 hg (fun r hr hx2 => rows_apart this.1 h2.rf (by decide) r hx2 hr)
    · rw [List.getElem?_append_right (by omega), hlen] at hx
      rw [List.getElem?_append_right hi] at hf
      have h0 : i - fs.length = 0 := by
        rcases Nat.eq_zero_or_pos (i - fs.length) with h | h
        · exact h
        · rw [List.getElem?_eq_none (by simp; omega)] at hf; cases hf
      rw [h0] at hx hf
      simp at hx hf
      subst hx hf
      exact row_grown h2.rn hg (fun r hr hx2 => rows_apart h2.rn h2.rf (by decide) r hx2 hr)
  · exact ((((Below.refl B W).trans (hV.mono (by have := h.lt; omega))).grown hg (by have := h2.lt; omega) (fun q hq => by have := hge q hq; omega)).setCell (Nat.le_refl _) _).setCell (by dsimp only; omega) _
/-- An element is put behind the field that is being read. -/
theorem DSx.more {W V W1 : World} {B : Nat} {fs : List (List SP.El)} {now : List SP.El} {vf vn v' : Value} {fsv : List Value} (h : DSx W B fs now vf vn fsv) (hV : Below W.heap.size W V) (hg : V.grownBy W1 vn.ownBlock) (x : SP.El) (hown : W1.ownsRow (B + 2) 170 2 v' (now.length + 1) (now.flatMap e2 ++ e2 x)) (hw : v'.ownBlock = vn.ownBlock ∨ v'.ownBlock = some V.heap.size) :
    DSx (W1.setCell ⟨B + 1, 0, none⟩ v') B fs (now ++ [x]) vf v' fsv ∧ Below B W (W1.setCell ⟨B + 1, 0, none⟩ v') := by
  have h2 := h.below hV
  have hge := own_ge h.rn
  have k1 : W1.heap[B]? = some (.cells #[vf] 115 (0, 0)) := (hg.block _ (by have := h2.lt; omega) (fun e => by have := hge _ e.symm; omega)).trans h2.bf
  have k2 : W1.heap[B + 1]? = some (.cells #[vn] 117 (0, 0)) := (hg.block _ h2.lt (fun e => by have := hge _ e.symm; omega)).trans h2.bn
  have s1 := heap_setCell_same W1 (B + 1) 0 _ _ v' k2
  have hrow : ∀ {T : TypeId} {m : Nat} {x : Value} {n : Nat} {xs : List Value}, W1.ownsRow (B + 2) T m x n xs → (W1.setCell ⟨B + 1, 0, none⟩ v').ownsRow (B + 2) T m x n xs := fun h => row_set h (by dsimp only; omega) _
  refine ⟨⟨?_, ?_, ?_, hrow (OR.snoc hown), ?_⟩, ?_⟩
  · exact (Below.heap_setCell _ _ _ _ (by dsimp only; omega)).trans k1
  · rw [s1]; rfl
  · exact hrow (row_grown h2.rf hg (fun r hr hx2 => rows_apart h2.rf h2.rn (by decide) r hx2 hr))
  · intro i y f hy hf
    have := h2.el i y f hy hf
    refine ⟨hrow (row_grown this.1 hg (fun r hr hx2 => this.2 r hx2 hr)), fun r hr e => ?_⟩
    rcases hw with hw | hw
    · exact this.2 r hr (hw.symm.trans e)
    · rw [hw] at e
      injection e with e
      have := (World.ownsRow.lt this.1 r hr).2
      omega
  · exact (((Below.refl B W).trans (hV.mono (by have := h.lt; omega))).grown hg (by have := h2.lt; omega) (fun q hq => by have := hge q hq; omega)).setCell (by dsimp only; omega) _
/-- A list of slices. -/
def LL (w : World) (v : Value) (ls : List (List (List UInt8 × Int))) : Prop :=
  ∃ A cap, v = .slice A ls.length cap ∧ (ls = [] ∨ ∃ b off, A = some ⟨b, off, none⟩ ∧ b < w.heap.size ∧ ∀ i l, ls[i]? = some l → ∃ x, w.cell? ⟨b, off + i, none⟩ = some x ∧ R2 w x l)
theorem LL.below {w w' : World} {v : Value} {ls : List (List (List UInt8 × Int))} (h : LL w v ls) (hb : Below w.heap.size w w') : LL w' v ls := by
  obtain ⟨A, cap, h1, h2⟩ := h
  refine ⟨A, cap, h1, ?_⟩
  rcases h2 with h2 | ⟨b, off, e, hlt, hc⟩
  · exact .inl h2
  · refine .inr ⟨b, off, e, Nat.lt_of_lt_of_le hlt hb.size, fun i l hl => ?_⟩
    obtain ⟨x, h3, h4⟩ := hc i l hl
    exact ⟨x, (hb.cell (p := ⟨b, off + i, none⟩) hlt).trans h3, h4.below hb⟩
theorem LL.slice {w : World} {v : Value} {ls : List (List (List UInt8 × Int))} (h : LL w v ls) : ∃ A cap, v = .slice A ls.length cap := by
  obtain ⟨A, cap, h1, _⟩ := h
  exact ⟨A, cap, h1⟩
theorem LL.get {w : World} {A : Option Addr} {n cap : Nat} {ls : List (List (List UInt8 × Int))} (h : LL w (.slice A n cap) ls) {i : Nat} {l : List (List UInt8 × Int)} (hi : ls[i]? = some l) :
    ∃ b off A2 c2, A = some ⟨b, off, none⟩ ∧ b < w.heap.size ∧ w.cell? ⟨b, off + i, none⟩ = some (.slice A2 l.length c2) ∧ R2 w (.slice A2 l.length c2) l := by
  obtain ⟨A', cap', h1, h2⟩ := h
  injection h1 with h1 h3 h4
  subst h1
  rcases h2 with h2 | ⟨b, off, e, hlt, hc⟩
  · rw [h2] at hi; simp at hi
  · obtain ⟨x, h5, h6⟩ := hc i l hi
    obtain ⟨A2, c2, rfl, -⟩ := h6.slice
    exact ⟨b, off, A2, c2, e, hlt, h5, h6⟩
theorem ll_of {W : World} {B : Nat} {T : TypeId} {vf : Value} {fs : List (List (List UInt8 × Int))} {fsv : List Value} {T2 : TypeId} (h : W.ownsRow B T2 1 vf fs.length fsv) (hel : ∀ (i : Nat) (x : Value) (f : List (List UInt8 × Int)), fsv[i]? = some x → fs[i]? = some f → OR 2 e2 T B W x f) : LL W vf fs := by
  rcases own_casesN h with ⟨h1, h2⟩ | ⟨g, cap, h1, h2, h3, h4⟩
  · rw [List.eq_nil_of_length_eq_zero h2, h1]; exact ⟨none, 0, rfl, .inl rfl⟩
  · refine ⟨_, cap, h1, .inr ⟨g, 0, rfl, h4, fun i l hl => ?_⟩⟩
    have hi := (List.getElem?_eq_some_iff.1 hl).1
    have hlen : fsv.length = fs.length := by have := h.1; omega
    obtain ⟨x, hx⟩ : ∃ x, fsv[i]? = some x := ⟨_, List.getElem?_eq_getElem (by omega)⟩
    refine ⟨x, ?_, (hel i x l hx hl).rv e2_len⟩
    have := h.cells (g := g) (by rw [h1]; rfl) i x hx
    rw [Nat.zero_add]
    rw [show (⟨g, 0, none⟩ : Addr).add i = ⟨g, i, none⟩ by unfold Addr.add; split <;> simp_all] at this
    exact this
end W
end Go.Proofs.YtkceenmlhfkkhaaGreatDoor
namespace Go.Proofs.YtkceenmlhfkkhaaGreatDoor
open Go.RowKit K
namespace W
set_option maxRecDepth 100000
theorem end_nil (B : Nat) (fs : List (List SP.El)) (w : World) (h : DS w B fs []) :
    Calls Tryz.prog 92 #[.bool false, .pointer (some ⟨B + 1, 0, none⟩), .pointer (some ⟨B, 0, none⟩)] w fun e w' => e = .returned (.tuple #[]) ∧ w' = w := by
  obtain ⟨vf, vn, fsv, h⟩ := h
  obtain ⟨A, c, rfl⟩ := h.rn.val
  have c1 : w.cell? ⟨B + 1, 0, none⟩ = some (.slice A 0 c) := Lib.cell_of_heap h.bn 0
  go_enter Tryz.func92, Tryz.ntmps92
  go_wp2
  go_end0
  exact ⟨rfl, rfl⟩
set_option maxHeartbeats 2000000 in
theorem end_some (B : Nat) (fs : List (List SP.El)) (now : List SP.El) (w : World) (h : DS w B fs now) (hne : now ≠ []) (hl : fs.length ≤ 1000000) :
    Calls Tryz.prog 92 #[.bool false, .pointer (some ⟨B + 1, 0, none⟩), .pointer (some ⟨B, 0, none⟩)] w fun e w' => e = .returned (.tuple #[]) ∧ DS w' B (fs ++ [now]) [] ∧ Below B w w' := by
  obtain ⟨i0, hi, hz0, hz1, hz2⟩ := info_parts infoEls
  obtain ⟨vf, vn, fsv, h⟩ := h
  have HH := Lib.hid h
  obtain ⟨A, c, rfl⟩ := h.rn.val
  obtain ⟨A2, c2, rfl⟩ := row_val h.rf
  have hlt := h.lt
  have hlt0 : B < w.heap.size := by omega
  have c1 : w.cell? ⟨B + 1, 0, none⟩ = some (.slice A now.length c) := Lib.cell_of_heap h.bn 0
  have c0 : w.cell? ⟨B, 0, none⟩ = some (.slice A2 fs.length c2) := Lib.cell_of_heap h.bf 0
  have hpos : 0 < now.length := List.length_pos_iff.2 hne
  have hp1 : (0 : Int) < (now.length : Int) := by omega
  clear h
  go_enter Tryz.func92, Tryz.ntmps92
  go_wp2_with (at_builtin; refine wpList_append_own_at _ rfl _ _ 115 rfl (B + 2) 117 i0 _ 1 24 Tryz.underlying115 hi hz0 hz1 hz2 rfl (by decide) _ fs.length _ rfl (row_below HH.out.rf (balloc _ _)) ⟨w.heap.size, 0, none⟩ 1 1 [.slice A now.length c] rfl rfl (one_cells _ _ _) (by intro u hu; simp at hu; subst hu; rfl) (by unfold maxLen; omega) (by omega) (by simp; omega) ?_)
  intro v1 W1 ho1 hg1 _ _
  have hge := own_ge HH.out.rf
  have HP := Lib.hid (HH.out.push (balloc w _) hg1 ho1)
  have k0 : W1.heap[B]? = some (.cells #[.slice A2 fs.length c2] 115 (0, 0)) := (hg1.block _ (by simp; omega) (fun e => by have := hge _ e.symm; omega)).trans ((Below.heap_alloc _ _ _ (by omega)).trans HH.out.bf)
  have k1 : W1.heap[B + 1]? = some (.cells #[.slice A now.length c] 117 (0, 0)) := (hg1.block _ (by simp; omega) (fun e => by have := hge _ e.symm; omega)).trans ((Below.heap_alloc _ _ _ hlt).trans HH.out.bn)
  have f0 := Lib.frozen_of_heap k0 0
  have f1 := Lib.frozen_of_heap k1 0
  have d0 := Lib.cell_of_heap k0 0
  have d1 := Lib.cell_of_heap k1 0
  have l0 : B < W1.heap.size := (Array.getElem?_eq_some_iff.1 k0).1
  have l1 : B + 1 < W1.heap.size := (Array.getElem?_eq_some_iff.1 k1).1
  obtain ⟨A3, c3, rfl⟩ := row_val ho1
  clear ho1 hg1 hge k0 k1
  go_wp2
  go_end0
  exact ⟨rfl, ⟨_, _, _, HP.out.1⟩, HP.out.2⟩
def slen : Value → Nat
  | .slice _ n _ => n
  | _ => 0
theorem DS.fresh (w : World) : DS ((w.alloc (.cells #[.slice none 0 0] 115)).alloc (.cells #[.slice none 0 0] 117)) w.heap.size [] [] :=
  ⟨_, _, [], (Below.heap_alloc _ _ _ (by simp)).trans (al_new w _), al_new' _ _ _ (by simp), World.ownsRow_nil _ _ _ _, OR.nil _ _ _, fun i x f hx _ => by simp at hx⟩
/-- The end of a field, whether anything was read or not. -/
theorem end_any (B : Nat) (fs : List (List SP.El)) (now : List SP.El) (w : World) (h : DS w B fs now) (hl : fs.length ≤ 1000000) :
    Calls Tryz.prog 92 #[.bool false, .pointer (some ⟨B + 1, 0, none⟩), .pointer (some ⟨B, 0, none⟩)] w fun e w' => e = .returned (.tuple #[]) ∧ DS w' B (fs ++ if now = [] then [] else [now]) [] ∧ Below B w w' := by
  by_cases hn : now = []
  · subst hn
    refine (end_nil B fs w h).mono ?_
    rintro e w' ⟨h1, rfl⟩
    exact ⟨h1, by rw [if_pos rfl, List.append_nil]; exact h, Below.refl _ _⟩
  · refine (end_some B fs now w h hn hl).mono ?_
    rintro e w' ⟨h1, h2, h3⟩
    exact ⟨h1, by rw [if_neg hn]; exact h2, h3⟩
/-- One element less, and no room behind the others. -/
theorem slen_R2 {w : World} {v : Value} {l : List SP.El} (h : R2 w v l) : slen v = l.length := by
  obtain ⟨A, cap, rfl, -⟩ := h.slice
  rfl
theorem tail_step (b off : Nat) (w0 : World) (x : SP.El) (rest : List SP.El) (hr : RAt 2 e2 w0 b off (x :: rest)) (hb : b < w0.heap.size) (hn : ¬ (x :: rest).length = 1) : R2 w0 (.slice (some ⟨b, off + 2, none⟩) ((x :: rest).length - 1) ((x :: rest).length - 1)) rest := by
  have := R2.rest hr hb 1 (by have h : (x :: rest).length ≠ 0 := (by simp); omega)
  rw [Nat.one_mul] at this
  exact this
set_option maxHeartbeats 8000000 in
theorem divide_any (b : Bool) (l : List (List UInt8 × Int)) (v : Value) (w : World) (hv : R2 w v l) (hl : l.length ≤ 1000000) (hok : ∀ x ∈ l, SP.ok x) :
    Calls Tryz.prog 54 #[v, .string ⟨(SP.ifs b).toArray⟩] w fun e w' => ∃ v', e = .returned v' ∧ LL w' v' (SP.fld b l []) ∧ Below w.heap.size w w' := by
  obtain ⟨i0, hi, hz0, hz1, hz2⟩ := info_parts infoEl
  obtain ⟨R, hR⟩ : ∃ R, SP.fld b l [] = R := ⟨_, rfl⟩
  rw [hR]
  have hsum := SP.fld_len b l []
  have hne := SP.fld_ne b l []
  rw [hR] at hsum hne
  have HLR := Lib.hid (show R.length ≤ 1000000 from by
    have h : ∀ (L : List (List SP.El)), (∀ f ∈ L, f ≠ []) → L.length ≤ (L.map List.length).sum := by
      intro L
      induction L with
      | nil => intro _; simp
      | cons f L ih =>
        intro hf
        have h1 := ih (fun g hg => hf g (.tail _ hg))
        have h2 := List.length_pos_iff.2 (hf f (.head _))
        simp; omega
    have := h R hne
    simp at hsum
    omega)
  have HR := Lib.hid (show ([] : List (List SP.El)) ++ SP.fld b l [] = R from hR)
  obtain ⟨V, hV⟩ : ∃ V, V = (w.alloc (.cells #[.slice none 0 0] 115)).alloc (.cells #[.slice none 0 0] 117) := ⟨_, rfl⟩
  have HV := Lib.hid hV
  have HBV := Lib.hid (show Below w.heap.size w V by rw [hV]; exact btr (balloc _ _) (balloc _ _))
  have HDV := Lib.hid (show DS V w.heap.size [] [] by rw [hV]; exact DS.fresh w)
  have HVV := Lib.hid hv
  have HOK := Lib.hid hok
  have HLL := Lib.hid hl
  clear hR hsum hne hV hv hok hl
  go_enter Tryz.func54, Tryz.ntmps54
  go_upto_region 3 with (fail)
  rw [← HV.out]
  go_wp2
  go_loopw [0] (fun v0 wr => ∃ (rest now : List SP.El) (fs : List (List SP.El)), Hid (R2 w v0 rest) ∧ Hid (rest.length ≤ 1000000) ∧ Hid (now.length + rest.length ≤ 1000000) ∧ Hid (∀ x ∈ rest, SP.ok x) ∧ Hid (fs ++ SP.fld b rest now = R) ∧ Hid (DS wr w.heap.size fs now) ∧ Hid (Below w.heap.size w wr)) (fun v0 _ => slen v0)
  case atStart => exact ⟨l, [], [], HVV, HLL, by have := HLL.out; exact Lib.hid (by simpa using this), HOK, HR, HDV, HBV⟩
  case round =>
    obtain ⟨rest, now, fs, H0, HL0, HN0, HK0, HR0, HD0, HB0⟩ := hrel
    have HFL := Lib.hid (show fs.length ≤ 1000000 by have h1 := HLR.out; rw [← HR0.out, List.length_append] at h1; omega)
    cases rest with
    | nil =>
      obtain ⟨A, cap, rfl, -⟩ := H0.out.slice
      have HE := Lib.hid (end_any w.heap.size fs now wr HD0.out HFL.out)
      have HF := Lib.hid (show fs ++ (if now = [] then [] else [now]) = R by rw [← HR0.out, SP.fld_nil])
      rw [HF.out] at HE
      go_wp2_with fail
      refine HE.out.mono ?_
      rintro e Y ⟨rfl, ⟨vf, vn, fsv, hd⟩, hY⟩
      have HD := Lib.hid hd
      have HY := Lib.hid (HB0.out.trans hY)
      have d0 : Y.cell? ⟨w.heap.size, 0, none⟩ = some vf := Lib.cell_of_heap hd.bf 0
      obtain ⟨A2, c2, rfl⟩ := row_val hd.rf
      clear hd hY
      go_wp2
      go_ret
      exact ⟨_, rfl, ll_of HD.out.rf (fun i x f h1 h2 => (HD.out.el i x f h1 h2).1), HY.out⟩
    | cons x rest =>
      obtain ⟨bb, off, cap, rfl, hcap, hbb, hr⟩ := R2.at_ H0.out (by simp)
      have HRA := Lib.hid hr
      obtain ⟨g0, g1⟩ := R2.cell (hr.below HB0.out hbb) (i := 0) rfl
      rw [Nat.zero_mul, Nat.add_zero] at g0 g1
      have hbr : bb < wr.heap.size := Nat.lt_of_lt_of_le hbb HB0.out.size
      have HOX := Lib.hid (HK0.out x (.head _))
      obtain ⟨X, hX⟩ : ∃ X, X = wr.alloc (.cells #[.string ⟨x.1.toArray⟩, .int .i64 x.2] 170) := ⟨_, rfl⟩
      have HX := Lib.hid hX
      have HBX := Lib.hid (show Below wr.heap.size wr X by rw [hX]; exact balloc _ _)
      obtain ⟨q0, hq0⟩ : ∃ q0, wr.heap.size = q0 := ⟨_, rfl⟩
      have hxp : X.heap[q0]? = some (.cells #[.string ⟨x.1.toArray⟩, .int .i64 x.2] 170 (0, 0)) := by rw [hX]; exact al_new' wr _ _ hq0.symm
      have HXP := Lib.hid hxp
      have x0 := Lib.cell_of_heap hxp 0
      have x1 := Lib.cell_of_heap hxp 1
      have hxl : q0 < X.heap.size := (Array.getElem?_eq_some_iff.1 hxp).1
      have HDX := Lib.hid (HD0.out.below HBX.out)
      have HBW := Lib.hid (HB0.out.trans (HBX.out.mono HB0.out.size))
      have HLN := Lib.hid (show (x :: rest).length = rest.length + 1 from rfl)
      have hn0 : 0 < (x :: rest).length := by simp
      have hn1 : (x :: rest).length ≤ 1000000 := HL0.out
      have HT1 := Lib.hid (show (x :: rest).length = 1 → R2 w (.slice (some ⟨bb, off, none⟩) 0 0) rest from fun e => by
        have : rest = [] := by simpa using e
        rw [this]; exact R2.none_ _ _ _)
      have HT2 := Lib.hid (fun h => tail_step bb off w x rest hr hbb h)
      have HNR := Lib.hid (show now.length + (rest.length + 1) ≤ 1000000 from HN0.out)
      have HSK := Lib.hid (fun Y (hY : Below w.heap.size w Y) => skip_any b (x :: rest) _ w Y hY H0.out (by simp) HL0.out HK0.out)
      generalize (x :: rest).length = n at *
      have HKR := Lib.hid (fun y (hy : y ∈ rest) => HK0.out y (.tail _ hy))
      clear hX hxp hr HN0
      by_cases h3 : x.2 = 3
      case pos =>
        have HE := Lib.hid (end_any w.heap.size fs now X HDX.out HFL.out)
        have HF := Lib.hid (show (fs ++ if now = [] then [] else [now]) ++ SP.fld b rest [] = R by rw [← HR0.out, SP.fld_end b x rest now h3, List.append_assoc])
        rw [h3] at x1 g1 HX
        clear h3
        go_wp2_with fail
        rw [← HX.out]
        refine HE.out.mono ?_
        rintro e Y ⟨rfl, hd, hY⟩
        have HD := Lib.hid hd
        have HY := Lib.hid (HBW.out.trans hY)
        clear hd hY
        by_cases hn : n = 1
        · have HT := Lib.hid (HT1.out hn)
          subst hn
          go_wp2
          go_roundw
          case rel => exact ⟨rest, [], _, HT, Lib.hid (by have := HLN.out; omega), Lib.hid (by have := HLN.out; simp; omega), HKR, HF, HD, HY⟩
          case measure => simp [slen]
        · go_wp2
          go_roundw
          case rel => exact ⟨rest, [], _, Lib.hid (HT2.out hn), Lib.hid (by have := HLN.out; omega), Lib.hid (by have := HLN.out; simp; omega), HKR, HF, HD, HY⟩
          case measure => simp [slen]; omega
      case neg =>
      have e3 := beq_f h3
      have HW1 := Lib.hid (white_any b x X HOX.out)
      cases hs : SP.sep b x with
      | true =>
        rw [hs] at HW1
        have HF := Lib.hid (show (fs ++ if now = [] then [] else [now]) ++ SP.fld b (SP.skip b (x :: rest)) [] = R by rw [← HR0.out, SP.fld_white b x rest now hs, List.append_assoc])
        have hsk : SP.skip b (x :: rest) = SP.skip b rest := by unfold SP.skip; rw [List.dropWhile_cons_of_pos hs]
        have HSL := Lib.hid (show (SP.skip b (x :: rest)).length ≤ rest.length by rw [hsk]; exact SP.skip_len b rest)
        have HSM := Lib.hid (show ∀ y ∈ SP.skip b (x :: rest), SP.ok y from fun y hy => by rw [hsk] at hy; exact HKR.out y ((List.dropWhile_sublist _).subset hy))
        clear hs h3 hsk
        go_wp2_with fail
        rw [← HX.out]
        refine HW1.out.mono ?_
        rintro e Y1 ⟨rfl, hY1⟩
        have HY1 := Lib.hid (HBW.out.trans (hY1.mono HBW.out.size))
        have HD1 := Lib.hid (HDX.out.below hY1)
        clear hY1
        go_wp2_with fail
        refine (HSK.out Y1 HY1.out).mono ?_
        rintro e Y2 ⟨v2, rfl, hv2, hY2⟩
        have HV2 := Lib.hid hv2
        have HY2 := Lib.hid (HY1.out.trans (hY2.mono HY1.out.size))
        have HD2 := Lib.hid (HD1.out.below hY2)
        have HDL := Lib.hid (delimits_any b _ v2 Y2 (hv2.below HY2.out) (by have h1 := HSL.out; have h2 := HLN.out; omega) HSM.out)
        clear hv2 hY2
        go_wp2_with fail
        refine HDL.out.mono ?_
        rintro e Y3 ⟨rfl, hY3⟩
        have HY3 := Lib.hid (HY2.out.trans (hY3.mono HY2.out.size))
        have HD3 := Lib.hid (HD2.out.below hY3)
        have HE := Lib.hid (end_any w.heap.size fs now Y3 HD3.out HFL.out)
        clear hY3
        go_wp2_with fail
        refine HE.out.mono ?_
        rintro e Y4 ⟨rfl, hd, hY4⟩
        have HD := Lib.hid hd
        have HY := Lib.hid (HY3.out.trans hY4)
        clear hd hY4
        go_wp2
        go_roundw
        case rel => exact ⟨_, [], _, HV2, Lib.hid (by have h1 := HSL.out; have h2 := HLN.out; omega), Lib.hid (by have h1 := HSL.out; have h2 := HLN.out; simp; omega), HSM, HF, HD, HY⟩
        case measure =>
          rw [slen_R2 HV2.out]
          show _ < n
          have h1 := HSL.out; have h2 := HLN.out; omega
      | false =>
        rw [hs] at HW1
        have HF := Lib.hid (show fs ++ SP.fld b rest (now ++ [x]) = R by rw [← HR0.out, SP.fld_more b x rest now h3 hs])
        have HS1 := Lib.hid (fun Y => separates_any b x Y HOX.out)
        rw [hs] at HS1
        clear hs h3
        go_wp2_with fail
        rw [← HX.out]
        refine HW1.out.mono ?_
        rintro e Y1 ⟨rfl, hY1⟩
        have HY1 := Lib.hid (HBW.out.trans (hY1.mono HBW.out.size))
        have HD1 := Lib.hid (HDX.out.below hY1)
        have HQ1 := Lib.hid ((hY1.block _ hxl).trans HXP.out)
        have x0 := Lib.cell_of_heap HQ1.out 0
        have x1 := Lib.cell_of_heap HQ1.out 1
        have hxl1 : q0 < Y1.heap.size := (Array.getElem?_eq_some_iff.1 HQ1.out).1
        clear hY1
        go_wp2_with fail
        refine (HS1.out Y1).mono ?_
        rintro e Y2 ⟨rfl, hY2⟩
        have HY2 := Lib.hid (HY1.out.trans (hY2.mono HY1.out.size))
        obtain ⟨vf, vn, fsv, hd2⟩ := HD1.out.below hY2
        have HD2 := Lib.hid hd2
        have HQ2 := Lib.hid ((hY2.block _ hxl1).trans HQ1.out)
        have x0 := Lib.cell_of_heap HQ2.out 0
        have x1 := Lib.cell_of_heap HQ2.out 1
        have hxl2 : q0 < Y2.heap.size := (Array.getElem?_eq_some_iff.1 HQ2.out).1
        obtain ⟨A1, c1, rfl⟩ := hd2.rn.val
        have d1 : Y2.cell? ⟨w.heap.size + 1, 0, none⟩ = some (.slice A1 now.length c1) := Lib.cell_of_heap hd2.bn 0
        have hlt2 := hd2.lt
        have hNL := HNR.out
        clear hY2 hd2
        go_wp2_with (at_builtin; refine wpList_append_own_at _ rfl _ _ 117 rfl (w.heap.size + 2) 170 i0 _ 2 24 Tryz.underlying117 hi hz0 hz1 hz2 rfl (by decide) _ now.length _ rfl (row_below HD2.out.rn (balloc _ _)) ⟨Y2.heap.size, 0, none⟩ 1 1 [.string ⟨x.1.toArray⟩, .int .i64 x.2] rfl rfl (cells2 _ _ _ _) (e2_one x) (by unfold maxLen; omega) (by omega) (by simp; omega) ?_)
        intro v1 W1 ho1 hg1 _ how
        have HM := Lib.hid (HD2.out.more (balloc Y2 _) hg1 x ho1 (by rcases how with h | h; exact .inl h; exact .inr (by rw [h]; simp)))
        have hge := own_ge HD2.out.rn
        have k1 : W1.heap[w.heap.size + 1]? = some (.cells #[.slice A1 now.length c1] 117 (0, 0)) := (hg1.block _ (by simp; omega) (fun e => by have := hge _ e.symm; omega)).trans ((Below.heap_alloc _ _ _ hlt2).trans HD2.out.bn)
        have f1 := Lib.frozen_of_heap k1 0
        have d1 := Lib.cell_of_heap k1 0
        have l1 : w.heap.size + 1 < W1.heap.size := (Array.getElem?_eq_some_iff.1 k1).1
        obtain ⟨A3, c3, rfl⟩ := row_val ho1
        have HY3 := Lib.hid (HY2.out.trans HM.out.2)
        clear ho1 hg1 hge k1 how
        by_cases hn : n = 1
        · have HT := Lib.hid (HT1.out hn)
          subst hn
          go_wp2
          go_roundw
          case rel => exact ⟨rest, now ++ [x], fs, HT, Lib.hid (by have := HLN.out; omega), Lib.hid (by have := HNR.out; simp; omega), HKR, HF, Lib.hid ⟨_, _, _, HM.out.1⟩, HY3⟩
          case measure => simp [slen]
        · go_wp2
          go_roundw
          case rel => exact ⟨rest, now ++ [x], fs, Lib.hid (HT2.out hn), Lib.hid (by have := HLN.out; omega), Lib.hid (by have := HNR.out; simp; omega), HKR, HF, Lib.hid ⟨_, _, _, HM.out.1⟩, HY3⟩
          case measure => simp [slen]; omega
end W
end Go.Proofs.YtkceenmlhfkkhaaGreatDoor
namespace Go.Proofs.YtkceenmlhfkkhaaGreatDoor
open Go.RowKit K
namespace W
set_option maxRecDepth 100000
/-- An element is put behind an own row, by way of a row of one, at a step of a region that draws. -/
theorem step_push {P : Program} {ops : Array Oper} {o : Oper} {a : Act} {W : World} {K : Act → World → Prop} {Q : Exit → Act → World → Prop} {E : Prop}
    (hg : o.guard = none) (s x : Operand) (ST : TypeId) (hop : o.op = Op.call { callee := Callee.builtin Builtin.append, args := #[s, x], argTypes := #[ST, ST] }) (T : TypeId) (i0 : TypeInfo) (z : Value) (ht : P.underlying ST = some (.slice T)) (hi : P.info? T = some i0) (hz0 : i0.zero = some z) (hz1 : i0.size = 2) (hz2 : i0.bytes = 24) (hzs : z.cells.size = 2)
    (Y : World) (base : Nat) (v : Value) (acc : List SP.El) (y : SP.El) (hW : W = Y.alloc (.cells #[.string ⟨y.1.toArray⟩, .int .i64 y.2] T)) (hs : a.eval s = v) (hx : a.eval x = .slice (some ⟨Y.heap.size, 0, none⟩) 1 1) (hO : OR 2 e2 T base Y v acc) (hl : acc.length ≤ 2000000) (hb : base ≤ Y.heap.size)
    (hK : ∀ v' w', OR 2 e2 T base w' v' (acc ++ [y]) → Below base Y w' → K (a.put o.dst v') w') :
    if Region.wanted o (yielded ops a.tmps) = true then Oper.wp P o a W K Q else E := by
  subst hW
  refine step_append_own hg s x ST hop base T i0 z 2 24 ht hi hz0 hz1 hz2 hzs (by decide) v acc.length _ hs (row_below hO (balloc _ _)) ⟨Y.heap.size, 0, none⟩ 1 1 [.string ⟨y.1.toArray⟩, .int .i64 y.2] hx rfl (cells2 _ _ _ _) (e2_one y) (by unfold maxLen; omega) (by omega) (by simp; omega) ?_
  intro v' w' h1 h2
  exact hK v' w' (OR.snoc h1) (((balloc Y _).mono hb).grown h2 (by simp; omega) (fun q hq => own_ge hO q hq))
theorem infoRun : (Tryz.prog.info? 121).map (fun i => (i.zero, i.size, i.bytes)) = some (some (.agg #[.string ⟨#[]⟩, .int .i64 0]), 2, 24) := by kernel_rfl
end W
namespace SP
theorem grp_drop {l : List El} {n : Nat} {c : Int} (h0 : 0 < n) (hn : n ≤ l.length) (hc : ∀ x ∈ l.take n, x.2 = c) (he : ∀ x, l[n]? = some x → x.2 ≠ c) : grp l = (join (l.take n), c) :: grp (l.drop n) := grp_step n l c h0 hn hc he
theorem take_class {l : List El} {n : Nat} {c : Int} {x : El} (hc : ∀ x ∈ l.take n, x.2 = c) (hx : l[n]? = some x) (h : x.2 = c) : ∀ x ∈ l.take (n + 1), x.2 = c := by
  intro y hy
  rw [List.take_add_one, hx] at hy
  rw [List.mem_append] at hy
  rcases hy with hy | hy
  · exact hc y hy
  · simp at hy; rw [hy]; exact h
theorem join_take_le (l : List El) (n : Nat) : (join (l.take n)).length ≤ (join l).length := by
  rw [← List.take_append_drop n l, join_app, List.length_append, List.take_append_drop]
  omega
end SP
namespace W
theorem R2.sub {w : World} {b off : Nat} {l : List SP.El} (hr : RAt 2 e2 w b off l) (hb : b < w.heap.size) (n cap : Nat) (hn : n ≤ l.length) (hc : l.length ≤ cap) : R2 w (.slice (some ⟨b, off, none⟩) n cap) (l.take n) :=
  ⟨_, _, by rw [List.length_take, Nat.min_eq_left hn], by rw [List.length_take, Nat.min_eq_left hn]; omega, .inr ⟨b, off, rfl, hb, hr.take n⟩⟩
theorem R2.from_ {w : World} {b off : Nat} {l : List SP.El} (hr : RAt 2 e2 w b off l) (hb : b < w.heap.size) (n cap : Nat) (hc : l.length ≤ cap) : R2 w (.slice (some ⟨b, off + n * 2, none⟩) (l.length - n) (cap - n)) (l.drop n) :=
  ⟨_, _, by rw [List.length_drop], by rw [List.length_drop]; omega, .inr ⟨b, _, rfl, hb, hr.drop n⟩⟩
set_option maxHeartbeats 8000000 in
theorem runs_any (l : List SP.El) (v : Value) (w : World) (hv : R2 w v l) (hl : l.length ≤ 1000000) (hj : (SP.join l).length ≤ 1000000) :
    Calls Tryz.prog 56 #[v] w fun e w' => ∃ v', e = .returned v' ∧ OR 2 e2 121 w.heap.size w' v' (SP.grp l) ∧ Below w.heap.size w w' := by
  obtain ⟨i0, hi, hz0, hz1, hz2⟩ := info_parts infoRun
  obtain ⟨R, hR⟩ : ∃ R, SP.grp l = R := ⟨_, rfl⟩
  rw [hR]
  have HR := Lib.hid (show ([] : List SP.Run) ++ SP.grp l = R from hR)
  have HVV := Lib.hid hv
  have HLL := Lib.hid hl
  have HJJ := Lib.hid hj
  clear hR hv hl hj
  go_enter Tryz.func56, Tryz.ntmps56
  go_wp2
  go_loopw [0, 3] (fun v0 o wr => ∃ (rest acc : _), Hid (R2 w v0 rest) ∧ Hid (acc.length + rest.length ≤ 1000000) ∧ Hid ((SP.join rest).length ≤ 1000000) ∧ Hid (acc ++ SP.grp rest = R) ∧ Hid (OR 2 e2 121 w.heap.size wr o acc) ∧ Hid (Below w.heap.size w wr)) (fun v0 _ _ => slen v0)
  case atStart => exact ⟨l, [], HVV, by have := HLL.out; exact Lib.hid (by simpa using this), HJJ, HR, Lib.hid (OR.nil _ _ _), Lib.hid (Below.refl _ _)⟩
  case round =>
    obtain ⟨rest, acc, H0, HL0, HJ0, HR0, HO0, HB0⟩ := hrel
    obtain ⟨A1, c1, rfl⟩ := HO0.out.val
    by_cases hre : rest = []
    · subst hre
      obtain ⟨A, cap, rfl, -⟩ := H0.out.slice
      have HF := Lib.hid (show R = acc by rw [← HR0.out]; exact (List.append_nil acc))
      go_wp2
      go_ret
      exact ⟨_, rfl, by rw [HF.out]; exact HO0.out, HB0.out⟩
    obtain ⟨bb, off, cap, rfl, hcap, hbb, hr⟩ := R2.at_ H0.out hre
    obtain ⟨n, hn⟩ : ∃ n, n = rest.length := ⟨_, rfl⟩
    have HNN := Lib.hid hn
    have hn0 : 0 < n := by rw [hn]; exact List.length_pos_iff.2 hre
    have hn1 : n ≤ 1000000 := by have := HL0.out; omega
    have hcap1 : n ≤ cap := by omega
    obtain ⟨x, hx⟩ : ∃ x, rest[0]? = some x := ⟨_, List.getElem?_eq_getElem (by omega)⟩
    have HX0 := Lib.hid hx
    have HRA := Lib.hid hr
    obtain ⟨-, g1⟩ := R2.cell (hr.below HB0.out hbb) hx
    rw [Nat.zero_mul, Nat.add_zero] at g1
    have hbr : bb < wr.heap.size := Nat.lt_of_lt_of_le hbb HB0.out.size
    rw [← hn]
    clear hx hr hn hcap hre
    go_wp2
    go_loopw [4] (fun i wr2 => ∃ m : Nat, 1 ≤ m ∧ m ≤ n ∧ i = .int .i64 m ∧ Hid (∀ y ∈ rest.take m, y.2 = x.2) ∧ Hid (Below w.heap.size w wr2) ∧ Hid (OR 2 e2 121 w.heap.size wr2 (.slice A1 acc.length c1) acc)) (fun i _ => n - (intOf i).toNat)
    case atStart =>
      refine ⟨1, Nat.le_refl _, hn0, rfl, Lib.hid (fun y hy => ?_), HB0, HO0⟩
      have h := HX0.out
      cases rest with
      | nil => cases h
      | cons z r => simp at h hy; rw [hy, h]
    case round =>
      clear HO0 HB0 hbr g1
      obtain ⟨m, hm1, hm2, rfl, HC, HB1, HO1⟩ := hrel
      have HKC := Lib.hid (fun (Y : World) (i : Nat) (y : SP.El) (hi : rest[i]? = some y) (hY : Below w.heap.size w Y) => (show Y.cell? ⟨bb, off + i * 2 + 1, none⟩ = some (.int .i64 y.2) from (R2.cell (HRA.out.below hY hbb) hi).2))
      have g1 := HKC.out wr 0 x HX0.out HB1.out
      rw [Nat.zero_mul, Nat.add_zero] at g1
      have hbr : bb < wr.heap.size := Nat.lt_of_lt_of_le hbb HB1.out.size
      by_cases hgo : ∃ y, rest[m]? = some y ∧ y.2 = x.2
      · obtain ⟨y, hy, hyx⟩ := hgo
        have hmn : m < n := by have := (List.getElem?_eq_some_iff.1 hy).1; have := HNN.out; omega
        have g2 := HKC.out wr m y hy HB1.out
        rw [hyx] at g2
        have HC2 := Lib.hid (SP.take_class HC.out hy hyx)
        have k1 : ((m : Int) < (n : Int)) = True := eq_true (by omega)
        have k2 : decide ((m : Int) < (n : Int)) = true := decide_eq_true (by omega)
        clear hy hyx
        go_wp2_with fail
        go_quiet (fail)
        go_wp2
        go_roundw
        case rel => exact ⟨m + 1, by omega, hmn, by go_num, HC2, Lib.hid (bdN HB1.out _), Lib.hid (HO1.out.below (bdN (Below.refl _ _) _))⟩
        case measure => simp [intOf]; omega
      · have HGR := Lib.hid (SP.grp_drop (l := rest) (n := m) (c := x.2) hm1 (by have := HNN.out; omega) HC.out (fun y hy e => hgo ⟨y, hy, e⟩))
        obtain ⟨tj, htj⟩ : ∃ tj, SP.join (rest.take m) = tj := ⟨_, rfl⟩
        rw [htj] at HGR
        have HTJ := Lib.hid htj
        have HF := Lib.hid (show (acc ++ [(tj, x.2)]) ++ SP.grp (rest.drop m) = R by rw [← HR0.out, HGR.out, List.append_assoc]; rfl)
        have HJN := Lib.hid (fun (Y : World) (hY : Below w.heap.size w Y) (hO : OR 2 e2 121 w.heap.size Y (.slice A1 acc.length c1) acc) => (joinE_any (rest.take m) (.slice (some ⟨bb, off, none⟩) m cap) Y (R2.sub (HRA.out.below hY hbb) (Nat.lt_of_lt_of_le hbb hY.size) m cap (by have := HNN.out; omega) (by have := HNN.out; omega)) (by have := HNN.out; rw [List.length_take]; omega) (Nat.le_trans (SP.join_take_le rest m) HJ0.out)).mono (fun e Y' hh => (show e = .returned (.string ⟨tj.toArray⟩) ∧ Below w.heap.size w Y' ∧ OR 2 e2 121 w.heap.size Y' (.slice A1 acc.length c1) acc from ⟨by rw [hh.1]; show _ = Ending.returned (.string ⟨tj.toArray⟩); rw [← HTJ.out]; rfl, hY.trans (hh.2.mono hY.size), hO.below hh.2⟩)))
        have HSB := Lib.hid (fun (Y : World) (hY : Below w.heap.size w Y) => (show Y.cell? ⟨bb, off + 1, none⟩ = some (.int .i64 x.2) ∧ Below w.heap.size w Y from ⟨by have := HKC.out Y 0 x HX0.out hY; rw [Nat.zero_mul, Nat.add_zero] at this; exact this, hY⟩))
        have HAL := Lib.hid (show acc.length ≤ 2000000 by have := HL0.out; omega)
        have HA2 := Lib.hid (show (acc ++ [(tj, x.2)]).length + (rest.drop m).length ≤ 1000000 by have h1 := HL0.out; have h2 := HNN.out; simp; omega)
        have HJ2 := Lib.hid (show (SP.join (rest.drop m)).length ≤ 1000000 by
          have h1 := HJ0.out
          rw [← List.take_append_drop m rest, SP.join_app, List.length_append] at h1
          omega)
        have hcs : m = n ∨ ∃ y, rest[m]? = some y ∧ m < n ∧ (y.2 == x.2) = false := by
          rcases Nat.lt_or_ge m n with h | h
          · right
            obtain ⟨y, hy⟩ : ∃ y, rest[m]? = some y := ⟨_, List.getElem?_eq_getElem (by have := HNN.out; omega)⟩
            exact ⟨y, hy, h, beq_f (fun e => hgo ⟨y, hy, e⟩)⟩
          · left; omega
        clear htj hgo HC HGR
        have k3 : ((m : Int) ≤ (cap : Int)) = True := eq_true (by omega)
        have k4 : ((m : Int) ≤ (n : Int)) = True := eq_true (by omega)
        have HRD := Lib.hid (R2.from_ HRA.out hbb m cap (by have := HNN.out; omega))
        rw [← HNN.out] at HRD
        have hmc : m ≤ cap := by omega
        rcases hcs with hmn | ⟨y, hy, hmn, hne⟩
        case inl =>
          have HDN := Lib.hid (show rest.drop m = [] from List.drop_eq_nil_of_le (by have := HNN.out; omega))
          subst hmn
          have k1 : ((m : Int) < (m : Int)) = False := eq_false (by omega)
          have k2 : decide ((m : Int) < (m : Int)) = false := decide_eq_false (by omega)
          go_wp2_with fail
          go_quiet (fail)
          generalize hU : World.drewN wr _ = U
          have HBU := Lib.hid (show Below w.heap.size w U by rw [← hU]; exact bdN HB1.out _)
          have HOU := Lib.hid (show OR 2 e2 121 w.heap.size U (.slice A1 acc.length c1) acc by rw [← hU]; exact HO1.out.below (bdN (Below.refl _ _) _))
          have g1 := (HSB.out U HBU.out).1
          have hbr : bb < U.heap.size := Nat.lt_of_lt_of_le hbb HBU.out.size
          clear hU
          go_wp2_with fail
          go_region_held_law (fun w' => w'.cell? ⟨bb, off + 1, none⟩ = some (.int .i64 x.2) ∧ Below w.heap.size w w')
            (first | exact HSB.out _ HBU.out.drew | exact HSB.out _ hy1 | exact HSB.out _ (hy1.alloc hy1.size _) | exact HSB.out _ hb1)
            (first
              | (go_at_call 97; refine (HJN.out _ HBU.out.drew (HOU.out.below (Below.refl _ _).drew)).mono ?_; rintro e Y1 ⟨rfl, hy1, hy2⟩)
              | (have hyy := hy1; clear hyy; refine step_append_own rfl _ _ 86 rfl w.heap.size 121 i0 (.agg #[.string ⟨#[]⟩, .int .i64 0]) 2 24 Tryz.underlying86 hi hz0 hz1 hz2 rfl (by decide) (.slice A1 acc.length c1) acc.length _ rfl (row_below hy2 (balloc _ _)) ⟨Y1.heap.size, 0, none⟩ 1 1 [.string ⟨tj.toArray⟩, .int .i64 x.2] rfl rfl (cells2 _ _ _ _) (e2_one (tj, x.2)) (by unfold maxLen; have := HAL.out; omega) (by have := HAL.out; omega) (by have := hy1.size; simp; omega) ?_; intro v1 W1 ho1 hg1; have hb1 := (hy1.alloc hy1.size (.cells #[.string ⟨tj.toArray⟩, .int .i64 x.2] 121)).grown hg1 (by have := hy1.size; simp; omega) (fun q hq => own_ge hy2 q hq)))
          all_goals
            have HON := Lib.hid (OR.snoc (l := acc) (x := (tj, x.2)) ho1)
            have HBN := Lib.hid hb1
            clear ho1 hg1 hb1
            by_cases hcm : cap = m
            · subst hcm
              go_wp2
              go_roundw
              case rel => exact ⟨[], acc ++ [(tj, x.2)], Lib.hid (R2.none_ _ _ _), by rw [HDN.out] at HA2; exact HA2, by rw [HDN.out] at HJ2; exact HJ2, by rw [HDN.out] at HF; exact HF, HON, HBN⟩
              case measure => simp [slen]; omega
            · go_wp2
              go_roundw
              case rel => exact ⟨[], acc ++ [(tj, x.2)], Lib.hid (R2.none_ _ _ _), by rw [HDN.out] at HA2; exact HA2, by rw [HDN.out] at HJ2; exact HJ2, by rw [HDN.out] at HF; exact HF, HON, HBN⟩
              case measure => simp [slen]; omega
        case inr =>
          have g2 := HKC.out wr m y hy HB1.out
          have k1 : ((m : Int) < (n : Int)) = True := eq_true (by omega)
          have k2 : decide ((m : Int) < (n : Int)) = true := decide_eq_true (by omega)
          clear hy
          go_wp2_with fail
          go_quiet (fail)
          generalize hU : World.drewN wr _ = U
          have HBU := Lib.hid (show Below w.heap.size w U by rw [← hU]; exact bdN HB1.out _)
          have HOU := Lib.hid (show OR 2 e2 121 w.heap.size U (.slice A1 acc.length c1) acc by rw [← hU]; exact HO1.out.below (bdN (Below.refl _ _) _))
          have g1 := (HSB.out U HBU.out).1
          have hbr : bb < U.heap.size := Nat.lt_of_lt_of_le hbb HBU.out.size
          clear hU
          go_wp2_with fail
          go_region_held_law (fun w' => w'.cell? ⟨bb, off + 1, none⟩ = some (.int .i64 x.2) ∧ Below w.heap.size w w')
            (first | exact HSB.out _ HBU.out.drew | exact HSB.out _ hy1 | exact HSB.out _ (hy1.alloc hy1.size _) | exact HSB.out _ hb1)
            (first
              | (go_at_call 97; refine (HJN.out _ HBU.out.drew (HOU.out.below (Below.refl _ _).drew)).mono ?_; rintro e Y1 ⟨rfl, hy1, hy2⟩)
              | (have hyy := hy1; clear hyy; refine step_append_own rfl _ _ 86 rfl w.heap.size 121 i0 (.agg #[.string ⟨#[]⟩, .int .i64 0]) 2 24 Tryz.underlying86 hi hz0 hz1 hz2 rfl (by decide) (.slice A1 acc.length c1) acc.length _ rfl (row_below hy2 (balloc _ _)) ⟨Y1.heap.size, 0, none⟩ 1 1 [.string ⟨tj.toArray⟩, .int .i64 x.2] rfl rfl (cells2 _ _ _ _) (e2_one (tj, x.2)) (by unfold maxLen; have := HAL.out; omega) (by have := HAL.out; omega) (by have := hy1.size; simp; omega) ?_; intro v1 W1 ho1 hg1; have hb1 := (hy1.alloc hy1.size (.cells #[.string ⟨tj.toArray⟩, .int .i64 x.2] 121)).grown hg1 (by have := hy1.size; simp; omega) (fun q hq => own_ge hy2 q hq)))
          all_goals
            have HON := Lib.hid (OR.snoc (l := acc) (x := (tj, x.2)) ho1)
            have HBN := Lib.hid hb1
            clear ho1 hg1 hb1
            have hcm : ¬ cap = m := by omega
            go_wp2
            go_roundw
            case rel => exact ⟨rest.drop m, acc ++ [(tj, x.2)], Lib.hid (HRD.out), HA2, HJ2, HF, HON, HBN⟩
            case measure => simp [slen]; omega
theorem OR.based {α : Type} {m : Nat} {enc : α → List Value} {T : TypeId} {B B' : Nat} {w : World} {v : Value} {l : List α} (h : OR m enc T B w v l) (hB : B' ≤ B) : OR m enc T B' w v l := by
  obtain ⟨h1, h2⟩ := h
  refine ⟨h1, ?_⟩
  rcases h2 with h2 | ⟨g, cap, cur, e1, e2, e3⟩
  · exact .inl h2
  · exact .inr ⟨g, cap, cur, e1, Nat.le_trans hB e2, e3⟩
theorem sum_mem {F : List (List SP.El)} {f : List SP.El} (h : f ∈ F) : f.length ≤ (F.map List.length).sum := by
  induction F with
  | nil => simp at h
  | cons g F ih =>
    rw [List.map_cons, List.sum_cons]
    rcases List.mem_cons.1 h with rfl | h
    · omega
    · have := ih h; omega
theorem infoRuns : (Tryz.prog.info? 86).map (fun i => (i.zero, i.size, i.bytes)) = some (some (.slice none 0 0), 1, 24) := by kernel_rfl
set_option maxHeartbeats 8000000 in
theorem Fields_any (b : Bool) (l : List SP.Run) (v : Value) (w : World) (hv : R2 w v l) (hl : l.length ≤ 1000000) (hz : (SP.els l).length ≤ 1000000) (hc : ∀ r ∈ l, 0 ≤ r.2 ∧ r.2 ≤ 3) (ht : ∀ r ∈ l, r.1.length ≤ 1000000) :
    Calls Tryz.prog 38 #[v, .string ⟨(SP.ifs b).toArray⟩] w fun e w' => ∃ v', e = .returned v' ∧ LL w' v' (SP.fields b l) ∧ Below w.heap.size w w' := by
  obtain ⟨i0, hi, hz0, hz1, hz2⟩ := info_parts infoRuns
  obtain ⟨F, hF⟩ : ∃ F, SP.fld b (SP.els l) [] = F := ⟨_, rfl⟩
  have HEL := Lib.hid (elements_any l v w hv hl hz hc ht)
  have HDV := Lib.hid (fun Y v' (hy : R2 Y v' (SP.els l)) => divide_any b (SP.els l) v' Y hy hz SP.els_ok)
  rw [hF] at HDV
  have hsum := SP.fld_len b (SP.els l) []
  rw [hF] at hsum
  have HSZ := Lib.hid (show ∀ f ∈ F, f.length ≤ 1000000 ∧ (SP.join f).length ≤ 1000000 from fun f hf => by
    have h1 : f.length ≤ (F.map List.length).sum := sum_mem hf
    have h2 : (SP.join f).length ≤ f.length := by
      have hok : ∀ x ∈ f, SP.ok x := SP.fld_mem b (C := SP.ok) (SP.els l) [] SP.els_ok (fun z hz => absurd hz (by simp)) f (by rw [hF]; exact hf)
      clear h1 hsum hf
      induction f with
      | nil => simp [SP.join]
      | cons x f ih =>
        have h3 := ih (fun y hy => hok y (.tail _ hy))
        have h4 := (hok x (.head _)).1
        show (x.1 ++ SP.join f).length ≤ _
        rw [List.length_append, List.length_cons]; omega
    simp at hsum
    omega)
  have HFL := Lib.hid (show F.length ≤ 1000000 from by
    have hne := SP.fld_ne b (SP.els l) []
    rw [hF] at hne
    have h : ∀ (L : List (List SP.El)), (∀ f ∈ L, f ≠ []) → L.length ≤ (L.map List.length).sum := by
      intro L
      induction L with
      | nil => intro _; simp
      | cons f L ih =>
        intro hf
        have h1 := ih (fun g hg => hf g (.tail _ hg))
        have h2 := List.length_pos_iff.2 (hf f (.head _))
        simp; omega
    have := h F hne
    simp at hsum
    omega)
  obtain ⟨R, hR⟩ : ∃ R, SP.fields b l = R := ⟨_, rfl⟩
  have HR := Lib.hid (show ([] : List (List SP.Run)) ++ (F.drop 0).map SP.grp = R by rw [← hR, List.drop_zero]; unfold SP.fields; rw [hF]; rfl)
  rw [hR]
  clear hR hF hsum hv hl hz hc ht
  go_enter Tryz.func38, Tryz.ntmps38
  go_wp2_with fail
  refine HEL.out.mono ?_
  rintro e Y1 ⟨v1, rfl, h1, hY1⟩
  have HY1 := Lib.hid hY1
  have HD1 := Lib.hid (HDV.out Y1 v1 h1)
  clear h1 hY1
  go_wp2_with fail
  refine HD1.out.mono ?_
  rintro e Y2 ⟨v2, rfl, h2, hY2⟩
  obtain ⟨A2, c2, rfl⟩ := h2.slice
  have HL2 := Lib.hid h2
  have HY2 := Lib.hid (HY1.out.trans (hY2.mono HY1.out.size))
  clear h2 hY2
  go_wp2
  go_loopw [5, 13] (fun o i wr => ∃ (k : Nat) (fsv : List Value), k ≤ F.length ∧ i = .int .i64 k ∧ Hid (Below Y2.heap.size Y2 wr) ∧ Hid (wr.ownsRow Y2.heap.size 86 1 o k fsv) ∧ Hid (∀ (j : Nat) (x : Value) (f : List SP.Run), fsv[j]? = some x → ((F.take k).map SP.grp)[j]? = some f → OR 2 e2 121 Y2.heap.size wr x f)) (fun _ i _ => F.length - (intOf i).toNat)
  case atStart => exact ⟨0, [], Nat.zero_le _, rfl, Lib.hid (Below.refl _ _), Lib.hid (World.ownsRow_nil _ _ _ _), Lib.hid (fun j x f h _ => by simp at h)⟩
  case round =>
    obtain ⟨k, fsv, hk, rfl, HB, HO, HE⟩ := hrel
    obtain ⟨A1, c1, rfl⟩ := row_val HO.out
    by_cases hlt : k < F.length
    · obtain ⟨f, hf⟩ : ∃ f, F[k]? = some f := ⟨_, List.getElem?_eq_getElem hlt⟩
      obtain ⟨bb, off, A3, c3, rfl, hbl, g0, hr⟩ := (HL2.out.below HB.out).get hf
      have hsz := HSZ.out f (List.mem_of_getElem? hf)
      have HRN := Lib.hid (runs_any f _ wr hr hsz.1 hsz.2)
      have HKF := Lib.hid hf
      clear hr hsz hf
      go_wp2_with fail
      refine HRN.out.mono ?_
      rintro e Y3 ⟨v3, rfl, ho3, hY3⟩
      obtain ⟨A4, c4, rfl⟩ := ho3.val
      have HO3 := Lib.hid (OR.based ho3 HB.out.size)
      have HY3 := Lib.hid hY3
      have HKL := HFL.out
      clear ho3 hY3
      go_wp2_with (at_builtin; refine wpList_append_own_at _ rfl _ _ 93 rfl Y2.heap.size 86 i0 _ 1 24 Tryz.underlying93 hi hz0 hz1 hz2 rfl (by decide) _ k _ rfl (row_below (row_below HO.out HY3.out) (balloc _ _)) ⟨Y3.heap.size, 0, none⟩ 1 1 [.slice A4 (SP.grp f).length c4] rfl rfl (one_cells _ _ _) (by intro u hu; simp at hu; subst hu; rfl) (by unfold maxLen; omega) (by omega) (by have h1 := HB.out.size; have h2 := HY3.out.size; simp; omega) ?_)
      intro v4 W4 ho4 hg4 _ _
      have HB4 := Lib.hid (show Below Y2.heap.size Y2 W4 from (((HB.out.trans (HY3.out.mono HB.out.size)).trans ((balloc Y3 _).mono (Nat.le_trans HB.out.size HY3.out.size))).grown hg4 (by have h1 := HB.out.size; have h2 := HY3.out.size; simp; omega) (fun q hq => own_ge HO.out q hq)))
      have HO4 := Lib.hid ho4
      have HE4 := Lib.hid (show ∀ (j : Nat) (x : Value) (g : List SP.Run), (fsv ++ [.slice A4 (SP.grp f).length c4])[j]? = some x → ((F.take (k + 1)).map SP.grp)[j]? = some g → OR 2 e2 121 Y2.heap.size W4 x g from by
        have hlen : fsv.length = k := by have := HO.out.1; omega
        have hrow : W4.ownsRow Y2.heap.size 86 1 v4 (k + 1) (fsv ++ [.slice A4 (SP.grp f).length c4]) := ho4
        have hkeep : ∀ x g, OR 2 e2 121 Y2.heap.size Y3 x g → OR 2 e2 121 Y2.heap.size W4 x g := fun x g h => row_grown (row_below h (balloc Y3 (.cells #[.slice A4 (SP.grp f).length c4] 86))) hg4 (fun r hr hx2 => rows_apart (row_below h (balloc Y3 (.cells #[.slice A4 (SP.grp f).length c4] 86))) (row_below (row_below HO.out HY3.out) (balloc Y3 (.cells #[.slice A4 (SP.grp f).length c4] 86))) (by decide) r hx2 hr)
        intro j x g hx hg
        rw [List.take_add_one, HKF.out, List.map_append] at hg
        have hlt' : ((F.take k).map SP.grp).length = k := by rw [List.length_map, List.length_take]; omega
        rcases Nat.lt_or_ge j k with hj | hj
        · rw [List.getElem?_append_left (by omega)] at hx
          rw [List.getElem?_append_left (by omega)] at hg
          exact hkeep x g ((HE.out j x g hx hg).below HY3.out)
        · rw [List.getElem?_append_right (by omega), hlen] at hx
          rw [List.getElem?_append_right (by omega), hlt'] at hg
          have h0 : j - k = 0 := by
            rcases Nat.eq_zero_or_pos (j - k) with h | h
            · exact h
            · rw [List.getElem?_eq_none (by simp; omega)] at hx; cases hx
          rw [h0] at hx hg
          simp at hx hg
          subst hx hg
          exact hkeep _ _ HO3.out)
      clear ho4 hg4
      go_wp2
      go_roundw
      case rel => exact ⟨k + 1, _, hlt, by go_num, HB4, HO4, HE4⟩
      case measure => simp [intOf]; omega
    · have hke : k = F.length := by omega
      have HF2 := Lib.hid (show (F.take k).map SP.grp = R by rw [hke, List.take_length]; exact HR.out)
      have HLR := Lib.hid (show LL wr (.slice A1 k c1) R by
        rw [← HF2.out]
        have hl : ((F.take k).map SP.grp).length = k := by rw [List.length_map, List.length_take]; omega
        refine ll_of (fsv := fsv) (B := Y2.heap.size) (T := 121) (T2 := 86) ?_ HE.out
        rw [hl]; exact HO.out)
      go_wp2
      go_ret
      exact ⟨_, rfl, HLR.out, HY2.out.trans (HB.out.mono HY2.out.size)⟩
end W
end Go.Proofs.YtkceenmlhfkkhaaGreatDoor
