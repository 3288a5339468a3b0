/- Chapter 10: Delimiter. -/
import Derived.Test.YtggjhkmokgliaaaDoorW10c
import Derived.Test.YtggjhkmokgliaaaDoorP10c
import Derived.Maps.OwnIn
import Derived.Maps.Views
import Derived.StringKeys
import Derived.WalkSmall
import Derived.Lib.LaidTab
import Derived.Lib.AppendIntMem
namespace Go.Proofs.YtggjhkmokgliaaaDoor
open Go.RowKit Go.Shelf K
attribute [local go_sem] Oper.semAt_some
namespace P
/-- The map of the lines, as a datum. -/
def usedD (xs : List Str) : DataW Unit := xs.foldl (fun D x => D.put (.string x) (.lit (.bool true))) (.map [])
theorem usedD_snoc (xs : List Str) (x : Str) : usedD (xs ++ [x]) = (usedD xs).put (.string x) (.lit (.bool true)) := by unfold usedD; simp
theorem usedD_map (n : Nat) : ∀ xs : List Str, xs.length = n → Maps.IsMap (usedD xs) := by
  induction n with
  | zero => intro xs h; rw [List.eq_nil_of_length_eq_zero h]; exact ⟨_, rfl⟩
  | succ n ih =>
    intro xs h
    rcases List.eq_nil_or_concat xs with rfl | ⟨ys, y, rfl⟩
    · simp at h
    · rw [List.concat_eq_append, usedD_snoc]
      obtain ⟨es, he⟩ := ih ys (by simpa using h)
      rw [he]
      exact ⟨_, rfl⟩
theorem usedD_at (n : Nat) : ∀ (xs : List Str) (t : Str), xs.length = n → (usedD xs).atKey (.string t) (.lit (.bool false)) = .lit (.bool (decide (t ∈ xs))) := by
  induction n with
  | zero => intro xs t h; rw [List.eq_nil_of_length_eq_zero h]; simp [usedD, DataW.atKey]
  | succ n ih =>
    intro xs t h
    rcases List.eq_nil_or_concat xs with rfl | ⟨ys, y, rfl⟩
    · simp at h
    · rw [List.concat_eq_append, usedD_snoc]
      by_cases e : t = y
      · subst e
        rw [Maps.atKey_put_same (usedD_map _ ys rfl) (by trivial)]
        simp
      · rw [Maps.atKey_put_other (by simpa using e), ih ys t (by simpa using h)]
        simp [e]
end P
namespace P
theorem eofT_zero : eofT 0 = [69, 79, 70] := rfl
theorem eofT_succ (k : Nat) : eofT (k + 1) = 69 :: 79 :: 70 :: Lib.decDigits (k + 1) := by unfold eofT; rw [if_neg (by omega)]; rfl
end P
namespace W
/-- What the walks want of the world: the library's variables. -/
structure Env (w : World) : Prop where
  maxlen : ∃ m, w.cell? ⟨0, 0, none⟩ = some (.int .i64 m)
  pows : Lib.TabIs Tryd.prog w "internal/strconv.uint64pow10" .u64 Lib.pow10Tab
theorem gPow : Tryd.prog.globalNamed "internal/strconv.uint64pow10" = some 3 := by kernel_rfl
theorem Env.lt {w : World} (h : Env w) : 0 < w.heap.size := by
  obtain ⟨m, h⟩ := h.maxlen
  rcases Nat.lt_or_ge 0 w.heap.size with h' | h'
  · exact h'
  · simp [World.cell?, Array.getElem?_eq_none h'] at h
theorem Env.lt2 {w : World} (h : Env w) : 3 < w.heap.size := by
  have := h.pows.cell gPow 0 (by rw [Lib.pow10Tab_length]; omega)
  rcases Nat.lt_or_ge 3 w.heap.size with h' | h'
  · exact h'
  · simp [World.cell?, Array.getElem?_eq_none h'] at this
theorem Env.below {w w' : World} (h : Env w) (hb : Below w.heap.size w w') : Env w' := by
  have hlt := h.lt
  obtain ⟨m, h1⟩ := h.maxlen
  exact ⟨⟨m, (hb.cell (p := ⟨0, 0, none⟩) hlt).trans h1⟩, var?_below hb gPow h.lt2 h.pows⟩
theorem Itoa_any (n : Nat) (w : World) (h1 : n ≤ 2147483647) (hw : Env w) :
    Calls Tryd.prog 19 #[.int .i64 n] w fun e w' => e = .returned (.string ⟨(Lib.decDigits n).toArray⟩) ∧ Below w.heap.size w w' :=
  (Tryd.strconv_Itoa n (by omega) (by omega) w hw.pows).mono fun _ _ ⟨h2, k, os, h3⟩ => ⟨by rw [h2]; unfold Lib.itoa; rw [if_neg (by omega)]; simp, by subst h3; exact Lib.below_grow _ w (Nat.le_refl _) k os⟩
theorem owns_below {P : Program} {k : TypeId} {R : Value → Option (DataW Unit × List MemPlace)} {w w' : World} {b n : Nat} {D : DataW Unit} (h : w.ownsMap P k R b n D) (hb : Below w.heap.size w w') : w'.ownsMap P k R b n D := by
  have hlt := h.lt
  obtain ⟨es, ck, h1, h2⟩ := h
  exact ⟨es, ck, (hb.block b hlt).trans h1, h2⟩
theorem bool_inv {P : Program} {e : TypeId} (he : P.underlying e = some .bool) {v : Value} {b : Bool} {ps : List MemPlace} (h : plainElem (H := Unit) P e v = some (.lit (.bool b), ps)) : v = .bool b := by
  unfold plainElem at h
  rw [he] at h
  cases v <;> simp at h
  rw [h.1]
theorem lt_cell {w : World} {g o : Nat} {v : Value} (h : w.cell? ⟨g, o, none⟩ = some v) : g < w.heap.size := by
  rcases Nat.lt_or_ge g w.heap.size with h' | h'
  · exact h'
  · simp [World.cell?, Array.getElem?_eq_none h'] at h
set_option maxRecDepth 100000 in
set_option maxHeartbeats 4000000 in
theorem Delimiter_any (s : List UInt8) (w : World) (hl : s.length ≤ 10000) (hw : Env w) : Calls Tryd.prog 10 #[.string ⟨s.toArray⟩] w fun e w' => e = .returned (.string ⟨(P.delP s).toArray⟩) ∧ Below w.heap.size w w' := by
  have hmm := @run_makeMap Tryd.prog
  refine (callsIn_wide (n := 3)).1 ?_
  refine callsIn_of_wp_marks Tryd.func10 rfl trivial ?_ rfl
  simp only [Tryd.ntmps10, List.size_toArray, List.length_cons, List.length_nil, Nat.reduceAdd, Nat.reduceSub, Array.replicate_succ, Array.replicate_zero, List.push_toArray, List.append_toArray, List.nil_append, List.cons_append]
  have HLN := Lib.hid (fun w => lines_any s 0 w)
  gi_wp2_with (first | (gi_at_call 14; refine (callsIn_wide.2 (HLN.out _)).mono ?_; rintro e w' ⟨rfl, rfl⟩) | (refine ⟨trivial, ?_⟩; gi_at_call 14; refine (callsIn_wide.2 (HLN.out _)).mono ?_; rintro e w' ⟨rfl, rfl⟩))
  obtain ⟨x, hx⟩ : ∃ x, x = (w.alloc (.map #[] 0)).alloc (.cells #[.map (some w.heap.size)] 52) := ⟨_, rfl⟩
  have hxs : x.heap.size = w.heap.size + 1 + 1 := by rw [hx]; simp
  have hBx : Below w.heap.size w x := by rw [hx]; exact btr (balloc _ _) (balloc _ _)
  have hox : x.ownsMap Tryd.prog 9 (plainElem (H := Unit) Tryd.prog 4) w.heap.size 0 (P.usedD []) := by rw [hx]; exact (World.ownsMap_made w Tryd.prog 9 (plainElem (H := Unit) Tryd.prog 4)).alloc _
  have hcx : x.heap[w.heap.size + 1]? = some (.cells #[.map (some w.heap.size)] 52 (0, 0)) := by
    have := al_new (w.alloc (.map #[] 0)) (.cells #[.map (some w.heap.size)] 52)
    rw [World.size_alloc] at this
    rw [hx]; exact this
  rw [← hx]
  obtain ⟨y, hy⟩ : ∃ y, y = (x.alloc (.cells #[.string ⟨s.toArray⟩] 9)).alloc (.cells #[.int .i64 0] 3) := ⟨_, rfl⟩
  have hys : y.heap.size = w.heap.size + 4 := by rw [hy]; simp; omega
  have d1 : y.cell? ⟨w.heap.size + 1 + 1, 0, none⟩ = some (.string ⟨s.toArray⟩) := by rw [hy, ← hxs]; exact ((balloc _ _).cell (p := ⟨x.heap.size, 0, none⟩) (by simp)).trans (by simp)
  have d2 : y.cell? ⟨w.heap.size + 1 + 1 + 1, 0, none⟩ = some (.int .i64 ((0 : Nat) : Int)) := by rw [hy, ← hxs, show x.heap.size + 1 = (x.alloc (.cells #[.string ⟨s.toArray⟩] 9)).heap.size by simp]; simp
  have hBy : Below w.heap.size w y := by rw [hy]; exact btr (btr hBx (balloc _ _)) (balloc _ _)
  have hoy : y.ownsMap Tryd.prog 9 (plainElem (H := Unit) Tryd.prog 4) w.heap.size 0 (P.usedD []) := by rw [hy]; exact (hox.alloc _).alloc _
  have hcy : y.heap[w.heap.size + 1]? = some (.cells #[.map (some w.heap.size)] 52 (0, 0)) := by
    rw [hy]; exact ((balloc _ _).block _ (by simp; omega)).trans (((balloc _ _).block _ (by omega)).trans hcx)
  rw [← hy]
  have HW := Lib.hid hw
  clear hx hy hxs hBx hox hcx hw
  refine wpIn_rangeFunc_ownG rfl (by omega) (gf := 24) (lb := #[.pointer (some ⟨w.heap.size + 1 + 1, 0, none⟩), .pointer (some ⟨w.heap.size + 1 + 1 + 1, 0, none⟩)]) rfl trivial (enters_of Tryd.func24 (by kernel_rfl) rfl)
    (lines_stops _ (by omega) (w.heap.size + 1 + 1) (w.heap.size + 1 + 1 + 1) w.heap.size s 0 (by omega) hl y (by omega) (by omega) d1 d2) belowK_t (belowK_b (by omega)) (Below.refl _ _) (fun _ => rfl)
    (fun pre W => (W.heap[w.heap.size + 1]? = some (.cells #[.map (some w.heap.size)] 52 (0, 0)) ∧ W.ownsMap Tryd.prog 9 (plainElem (H := Unit) Tryd.prog 4) w.heap.size pre.length (P.usedD ((vals pre).map P.chomp))) ∧ Below w.heap.size w W)
    (fun _ _ _ => False)
    (OwnFrom.and (fun s A B row hs hg hr => ⟨block_grown hg (fun r e => (hr r e).2) hs.1 rfl, hs.2.kept hg (fun e => by have := (hr _ e.symm).1; omega)⟩) (ownFrom_below (Nat.le_refl _) (by omega)))
    (fun _ _ _ _ _ hs _ _ => hs)
    ⟨⟨hcy, hoy⟩, hBy⟩
    (fun x => { tmps := #[.string ⟨s.toArray⟩, undef, .string ⟨#[]⟩, .pointer (some ⟨w.heap.size + 1, 0, none⟩), .string ⟨x.1.toArray⟩, undef, undef, .map (some w.heap.size), .string ⟨s.toArray⟩, .func (.func 24) #[] #[.pointer (some ⟨w.heap.size + 1 + 1, 0, none⟩), .pointer (some ⟨w.heap.size + 1 + 1 + 1, 0, none⟩)], .string ⟨x.1.toArray⟩, undef, undef, undef, undef, undef, undef, undef, undef, undef, undef, undef, undef], defers := [] }) ?assign ?body ?done ?stop
  case assign =>
    intro l x W K hK
    gi_wp2
    exact hK
  case body =>
    rintro l pre x W ⟨⟨hc, hown⟩, hB⟩ hlt
    have hmx : Tryd.prog.follows .mixedOrders = true := by kernel_rfl
    obtain ⟨X, hX⟩ : ∃ X, X = x.1 := ⟨_, rfl⟩
    have hxl := x.2
    have HX := Lib.hid hX
    rw [← hX] at hxl ⊢
    have hcl : (P.chomp X).length ≤ 10000 := by
      unfold P.chomp
      split
      · simp; omega
      · exact hxl
    have hkey : keyOf Tryd.prog 9 (.string ⟨(P.chomp X).toArray⟩) = some (.string (P.chomp X)) := WideMaps.keyOf_string_mk Tryd.underlying9 (by simp [ByteArray.size, maxLen]; omega)
    obtain ⟨w1, hrun, hown1, hgrow1⟩ := (show W.drew.ownsMap Tryd.prog 9 (plainElem (H := Unit) Tryd.prog 4) w.heap.size pre.length (P.usedD ((vals pre).map P.chomp)) from hown).update (Maps.string_keyed Tryd.underlying9) Tryd.underlying52 (by unfold maxLen; omega) hkey (plainElem_bool Tryd.underlying4 true)
    have c0 : W.cell? ⟨w.heap.size + 1, 0, none⟩ = some (.map (some w.heap.size)) := Lib.cell_of_heap hc 0
    have HTS := Lib.hid (fun w => TrimSuffix_nl X w (by omega))
    have HOW := Lib.hid hown
    have HC := Lib.hid hc
    have HB := Lib.hid hB
    have HG := Lib.hid hgrow1
    have HO1 := Lib.hid hown1
    clear hX hkey hown hc hB hgrow1 hown1 hlt
    gi_wp2
    apply merge
    case h =>
      intro hrest
      gi_region_with_o (first | (refine ⟨trivial, ?_⟩; gi_at_call 18; refine (CallsIn.inRound l (callsIn_wide.2 (HTS.out _))).mono ?_; rintro e w' ⟨rfl, rfl⟩))
      all_goals exact hrest.out
    case g =>
      gi_wp2
      have hB' : Below w.heap.size W w1 := ((Below.refl _ W).drew).grown HG.out (by have := HB.out.size; exact this) (fun k e => by cases e; exact Nat.le_refl _)
      refine ⟨(KeepsOthers.drew _).from _ |>.trans (KeepsFrom.of_grownBy HG.out (fun j e => by cases e; omega)), hB', ⟨?_, ?_⟩, HB.out.trans hB'⟩
      · refine (HG.out.block _ (show w.heap.size + 1 < W.heap.size from (Array.getElem?_eq_some_iff.1 HC.out).1) (by simp)).trans HC.out
      · rw [vals_snoc, List.map_append, List.map_cons, List.map_nil, P.usedD_snoc, List.length_append, ← HX.out]
        exact HO1.out
  case done =>
    rintro D ys W hD hys' ⟨⟨hc, hown⟩, hB⟩ hK
    obtain ⟨L, hL⟩ : ∃ L, L = (vals ys).map P.chomp := ⟨_, rfl⟩
    have HLE := Lib.hid (show L = P.bare s by rw [hL, hys', List.drop_zero]; rfl)
    have HLL := Lib.hid (show L.length ≤ 10000 by rw [HLE.out]; exact Nat.le_trans (P.bare_len s) hl)
    rw [← hL] at hown
    have HOW := Lib.hid hown
    have HK := Lib.hid hK
    have HB := Lib.hid hB
    have HC := Lib.hid hc
    have hDl : D < W.heap.size := (Array.getElem?_eq_some_iff.1 hK).1
    have hcl : w.heap.size + 1 < W.heap.size := (Array.getElem?_eq_some_iff.1 hc).1
    have HDL := Lib.hid (And.intro hDl hcl)
    clear hL hown hK hB hc hys' hDl hcl
    gi_wp2
    gi_loopw [5, 6] (fun t n wr => ∃ k m : Nat, t = .string ⟨(P.eofT k).toArray⟩ ∧ n = .int .i64 m ∧ Hid (m = k + 1) ∧ Hid (∀ j, j < k → P.eofT j ∈ L) ∧ Below W.heap.size W wr) (fun _ n _ => L.length + 2 - (intOf n).toNat)
    case atStart => exact ⟨0, 1, rfl, rfl, rfl, fun j hj => by omega, Below.refl _ _⟩
    case round =>
      obtain ⟨k, m, rfl, rfl, HMK, HJ, hbw⟩ := hrel
      have HBW := Lib.hid hbw
      have HPG := Lib.hid (P.pigeon k L HJ.out)
      have hk1 : k ≤ 10000 := by have h1 := HPG.out; have h2 := HLL.out; omega
      have hm1 : (m : Int) ≤ 10001 := by have := HMK.out; omega
      have c0 : wr.cell? ⟨w.heap.size + 1, 0, none⟩ = some (.map (some w.heap.size)) := Lib.cell_of_heap ((hbw.block _ HDL.out.2).trans HC.out) 0
      have hel := P.eofT_len k
      have hkey : keyOf Tryd.prog 9 (.string ⟨(P.eofT k).toArray⟩) = some (.string (P.eofT k)) := WideMaps.keyOf_string_mk Tryd.underlying9 (by simp [ByteArray.size, maxLen]; omega)
      obtain ⟨v, ps, hrun, hv⟩ := (owns_below HOW.out hbw).lookup (Maps.string_keyed Tryd.underlying9) Tryd.underlying52 (Tryd.zeroValue4 _) (plainElem_bool Tryd.underlying4 false) hkey
      rw [P.usedD_at _ L _ rfl] at hv
      obtain rfl := bool_inv Tryd.underlying4 hv
      have HIT := Lib.hid (Itoa_any m wr (by omega) (HW.out.below (btr HB.out hbw)))
      have hdl : (Lib.decDigits m).length ≤ 20000 := by rw [Lib.decDigits_length]; have := P.nDig_le m m (Nat.le_refl _); omega
      by_cases hm : P.eofT k ∈ L
      · rw [decide_eq_true hm] at hrun
        have HM := Lib.hid hm
        clear hm hv hkey hbw hel
        gi_wp2_with (first | (gi_at_call 19; refine (callsIn_wide.2 HIT.out).mono ?_; rintro e w2 ⟨rfl, hb2⟩) | (refine ⟨trivial, ?_⟩; gi_at_call 19; refine (callsIn_wide.2 HIT.out).mono ?_; rintro e w2 ⟨rfl, hb2⟩))
        go_roundw
        case rel => exact ⟨k + 1, m + 1, by rw [P.eofT_succ, ← HMK.out], by go_num, by show _ = _; have := HMK.out; omega, fun j hj => by
            rcases Nat.lt_succ_iff_lt_or_eq.1 hj with h' | rfl
            · exact HJ.out j h'
            · exact HM.out, btr HBW.out hb2⟩
        case measure => have h1 := HMK.out; have h2 := HPG.out; simp [intOf]; omega
      · rw [decide_eq_false hm] at hrun
        have HM := Lib.hid hm
        clear hm hv hkey hbw hel
        gi_wp2
        have hK' := (HBW.out.block D HDL.out.1).trans HK.out
        refine ⟨by simp, .inl ⟨_, _, rfl, run_takeDeferred hK', ?_⟩⟩
        refine ⟨_, results_tmp rfl _ _ _, ?_, (btr HB.out HBW.out).trans (belowK_b (w := w) (Nat.le_refl _) _ D _ _ (by omega) hK' rfl rfl)⟩
        show Ending.returned (Value.string ⟨(P.eofT k).toArray⟩) = _
        rw [show P.delP s = P.eofT k by unfold P.delP; rw [← HLE.out, P.delK_eq HJ.out HM.out]]
  case stop =>
    rintro D c pre W _ _ h _
    exact h.elim
end W
end Go.Proofs.YtggjhkmokgliaaaDoor
